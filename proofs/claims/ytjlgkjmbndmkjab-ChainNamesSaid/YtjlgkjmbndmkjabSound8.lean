/- Slicing, loads, indexed addresses. -/
import Derived.Test.YtjlgkjmbndmkjabSound7
set_option linter.all false
set_option linter.unusedVariables false
namespace Bz
open Go Go.RowKit

def IntOf : Option Value → Option Int → Prop
  | none, none => True
  | some v, some n => ∃ k, v = .int k n
  | _, _ => False
def optOk (ren : Nat → Option Nat) : Option Operand → Option Opd → Bool
  | none, none => true
  | some x, some y => opdOk ren x y
  | _, _ => false
def lowOf (lo : Option Int) : Int := match lo with | none => 0 | some l => l
def highOf (len : Nat) (hi : Option Int) : Int := match hi with | none => (len : Int) | some h => h
theorem cut_get {α : Type} {len : Nat} {lo hi : Option Int} {k : Nat → Nat → Option α} {r : α} (h : cut len lo hi k = some r) :
    ∃ l h : Nat, k l h = some r ∧ l ≤ h ∧ h ≤ len ∧ lowOf lo = l ∧ highOf len hi = h := by
  have h' : (bif decide (0 ≤ lowOf lo) && (decide (lowOf lo ≤ highOf len hi) && decide (highOf len hi ≤ len)) then k (lowOf lo).toNat (highOf len hi).toNat else none) = some r := h
  generalize lowOf lo = L at h' ⊢
  generalize highOf len hi = H at h' ⊢
  cases hc : (decide (0 ≤ L) && (decide (L ≤ H) && decide (H ≤ len))) with
  | false => simp [hc] at h'
  | true =>
    simp only [hc, cond_true] at h'
    simp only [Bool.and_eq_true, decide_eq_true_eq] at hc
    exact ⟨L.toNat, H.toNat, h', by omega, by omega, by omega, by omega⟩
theorem run_bounds {P : Program} {w : World} {b : Bool} {len cap : Nat} {low high : Option Value} {lo hi : Option Int} (hl : IntOf low lo) (hh : IntOf high hi)
    {l h : Nat} (h1 : l ≤ h) (h2 : h ≤ len) (h3 : len ≤ cap) (e1 : lowOf lo = l) (e2 : highOf len hi = h) :
    (Instr.sliceBounds b len cap low high none).run P w = .ok (l, h, cap) w := by
  have hb : ∀ (kd : IntKind) (n y : Nat) (c : BoundsCode), n ≤ y → (Instr.sliceBound (.int kd n) y c).run P w = .ok n w := by
    intro kd n y c hn
    have : (0 : Int) ≤ n ∧ (n : Int) ≤ y := ⟨by omega, by omega⟩
    simp [Instr.sliceBound, asIntOf, hn]
  cases low with
  | none =>
    cases lo with
    | some n => exact hl.elim
    | none =>
      have el : l = 0 := by simp only [lowOf] at e1; omega
      subst el
      cases high with
      | none =>
        cases hi with
        | some n => exact hh.elim
        | none =>
          have eh : h = len := by simp only [highOf] at e2; omega
          subst eh
          simp [Instr.sliceBounds]
      | some v =>
        cases hi with
        | none => exact hh.elim
        | some n =>
          obtain ⟨kd, rfl⟩ := hh
          simp only [highOf] at e2; subst e2
          simp only [Instr.sliceBounds, Sem.run_bind, Sem.run_pure, Result.andThen_ok]
          rw [hb _ _ _ _ (by omega)]
          simp
  | some u =>
    cases lo with
    | none => exact hl.elim
    | some m =>
      obtain ⟨kd, rfl⟩ := hl
      simp only [lowOf] at e1; subst e1
      cases high with
      | none =>
        cases hi with
        | some n => exact hh.elim
        | none =>
          have eh : h = len := by simp only [highOf] at e2; omega
          subst eh
          simp only [Instr.sliceBounds, Sem.run_bind, Sem.run_pure, Result.andThen_ok]
          rw [hb _ _ _ _ h1]
          simp
      | some v =>
        cases hi with
        | none => exact hh.elim
        | some n =>
          obtain ⟨kd', rfl⟩ := hh
          simp only [highOf] at e2; subst e2
          simp only [Instr.sliceBounds, Sem.run_bind, Sem.run_pure, Result.andThen_ok]
          rw [hb _ _ _ _ (by omega)]
          simp only [Result.andThen_ok]
          rw [hb _ _ _ _ h1]
          simp

section
variable {ren : Nat → Option Nat} {A : Nat → Prop} {b0 : Nat} {w0 : World} {N : Nat} {φ : Nat → Option Value} {s : St} {a : Act} {w : World}
variable {P : Program} {o : Oper} {nxt : Act → World → Prop} {Q : Exit → Act → World → Prop} {R : Nat → List DV → Option DV} {k : Eff → Option DV} {r : DV}

theorem opdO_sound (h : Rel ren A b0 w0 N φ s a w) {x : Option Operand} {y : Option Opd} (hc : optOk ren x y = true) {k : Option DV → Option DV} (hk : opdO s y k = some r) :
    ∃ d, k d = some r ∧ ∀ n, optInt d = some n → IntOf (x.map a.eval) n := by
  cases x with
  | none => cases y with
    | none => exact ⟨none, hk, fun n hn => by cases hn; trivial⟩
    | some y => cases hc
  | some x => cases y with
    | none => cases hc
    | some y =>
      obtain ⟨d, hk, h1⟩ := opd_sound h hc hk
      refine ⟨some d, hk, fun n hn => ?_⟩
      unfold optInt at hn
      split at hn
      · rename_i e; cases e
      · rename_i kd m e
        cases e; cases hn
        exact ⟨kd, h1.rv.int_inv⟩
      · cases hn

theorem s_sstr {t : TypeId} {x : Operand} {x' : Opd} {lo hi : Option Operand} {lo' hi' : Option Opd} (ho : o.op = .slice t x lo hi none)
    (hc : (strOk P t && (opdOk ren x x' && (optOk ren lo lo' && optOk ren hi hi'))) = true)
    (h : Rel ren A b0 w0 N φ s a w) (hk : eff R s (.sstr x' lo' hi') k = some r) (hx : Nx ren A b0 w0 N s a k r fun v w' => nxt (a.put o.dst v) w') : o.wp P a w nxt Q := by
  simp only [Bool.and_eq_true] at hc
  simp only [eff] at hk
  replace ⟨dx, hk, h1⟩ := opd_sound h hc.2.1 hk
  replace ⟨dl, hk, h2⟩ := opdO_sound h hc.2.2.1 hk
  replace ⟨dh, hk, h3⟩ := opdO_sound h hc.2.2.2 hk
  split at hk
  · rename_i b lo2 hi2 el eh
    obtain ⟨l, hh, hk, c1, c2, c3, c4⟩ := cut_get hk
    have hu := strOk_get hc.1
    have run : (Instr.sliceAt t (.string b) (lo.map a.eval) (hi.map a.eval) none).run P w = .ok (.string (b.extract l hh)) w := by
      simp only [Instr.sliceAt, Sem.run_bind, run_und hu, Result.andThen_ok, Instr.slice, Option.isSome_none, Bool.false_eq_true, if_false, Sem.run_pure,
        run_bounds (P := P) (w := w) (b := false) (h2 _ el) (h3 _ eh) c1 c2 (Nat.le_refl _) c3 c4]
    exact wp_val (v := .string (b.extract l hh)) (w' := w) (by simp only [execOp, ho, h1.rv.str_inv, Option.map_none, Sem.run_bind, run, Result.andThen_ok, Sem.run_pure]) (hx.pure hk h ⟨.str _, .str _⟩)
  · cases hk
theorem s_ssl {t : TypeId} {e : Nat} {x : Operand} {x' : Opd} {lo hi : Option Operand} {lo' hi' : Option Opd} (ho : o.op = .slice t x lo hi none)
    (hc : (slOk P t e && (opdOk ren x x' && (optOk ren lo lo' && optOk ren hi hi'))) = true)
    (h : Rel ren A b0 w0 N φ s a w) (hk : eff R s (.ssl e x' lo' hi') k = some r) (hx : Nx ren A b0 w0 N s a k r fun v w' => nxt (a.put o.dst v) w') : o.wp P a w nxt Q := by
  simp only [Bool.and_eq_true] at hc
  simp only [eff] at hk
  replace ⟨dx, hk, h1⟩ := opd_sound h hc.2.1 hk
  replace ⟨dl, hk, h2⟩ := opdO_sound h hc.2.2.1 hk
  replace ⟨dh, hk, h3⟩ := opdO_sound h hc.2.2.2 hk
  split at hk
  · rename_i τ b lo2 hi2 el eh
    cases hee : Nat.beq e τ.esz with
    | false => simp [hee] at hk
    | true =>
    simp only [hee, cond_true] at hk
    obtain rfl := Nat.eq_of_beq_eq_true hee
    obtain ⟨l, hh, hk, c1, c2, c3, c4⟩ := cut_get hk
    obtain ⟨elt, hu, hs⟩ := slOk_get hc.1
    obtain ⟨ad, cap, vals, ev, hcap, hv, hm⟩ := h1.rv.sl_inv
    have run : (Instr.sliceAt t (.slice ad b.length cap) (lo.map a.eval) (hi.map a.eval) none).run P w = .ok (.slice (if cap = l then ad else ad.map (·.add (l * τ.esz))) (hh - l) (cap - l)) w := by
      simp only [Instr.sliceAt, Sem.run_bind, run_und hu, Result.andThen_ok, Instr.slice, Sem.run_pure, run_sz hs,
        run_bounds (P := P) (w := w) (b := true) (h2 _ el) (h3 _ eh) c1 c2 hcap c3 c4]
    refine wp_val (v := .slice (if cap = l then ad else ad.map (·.add (l * τ.esz))) (hh - l) (cap - l)) (w' := w) (by simp only [execOp, ho, ev, Option.map_none, Sem.run_bind, run, Result.andThen_ok, Sem.run_pure]) (hx.pure hk h ⟨?_, .sl _ _⟩)
    have hlen : ((b.take hh).drop l).length = hh - l := by simp; omega
    have hget : ∀ (i : Nat) (x : El τ), ((b.take hh).drop l)[i]? = some x → b[l + i]? = some x := by
      intro i x hi
      have hi' : i < hh - l := by rw [← hlen]; exact (List.getElem?_eq_some_iff.1 hi).1
      rw [List.getElem?_drop, List.getElem?_take_of_lt (by omega)] at hi
      exact hi
    refine .sl (fun i => vals (l + i)) hlen.symm (by omega) (fun i x hi => (hv _ _ (hget i x hi)).1) (fun i x hi => (hv _ _ (hget i x hi)).2.1) (fun i x hi => (hv _ _ (hget i x hi)).2.2) (fun i x hi j v hj => ?_)
    have hi' : i < hh - l := by rw [← hlen]; exact (List.getElem?_eq_some_iff.1 hi).1
    obtain ⟨bl, f, e1, g, c⟩ := hm _ _ (hget i x hi) j v hj
    refine ⟨bl, f + l * τ.esz, ?_, g, ?_⟩
    · rw [if_neg (by omega), e1]; simp [Addr.add_none]
    · rw [← c, show f + l * τ.esz + i * τ.esz + j = f + (l + i) * τ.esz + j by rw [Nat.add_mul]; omega]
  · cases hk

/-! #### indexed addresses and loads -/
def ixOk (P : Program) (ar : Bool) (t : TypeId) (n e : Nat) : Bool := bif ar then arOk P t n e else slOk P t e
theorem RV.lsl_inv {G : Nat → Prop} {v : Value} {n : Nat} (h : RV w G φ ren v (.lsl n)) : φ n = some v := by cases h; assumption
theorem RV.loc_inv {G : Nat → Prop} {v : Value} {n o : Nat} (h : RV w G φ ren v (.loc n o)) : ∃ hd r b, φ n = some hd ∧ hbase hd = some (r, b) ∧ v = .pointer (some ⟨r, b + o, none⟩) := by
  cases h; exact ⟨_, _, _, ‹_›, ‹_›, rfl⟩
theorem RV.lel_inv {G : Nat → Prop} {v : Value} {n e o : Nat} {i : Int} (h : RV w G φ ren v (.lel n e i o)) : ∃ hd r b, φ n = some hd ∧ hbase hd = some (r, b) ∧ v = .pointer (some ⟨r, b + (i.toNat * e + o), none⟩) := by
  cases h; exact ⟨_, _, _, ‹_›, ‹_›, rfl⟩
theorem s_iaddr {t : TypeId} {ar : Bool} {n e : Nat} {x y : Operand} {x' y' : Opd} (ho : o.op = .indexAddr t x y)
    (hc : (ixOk P ar t n e && (opdOk ren x x' && opdOk ren y y')) = true)
    (h : Rel ren A b0 w0 N φ s a w) (hk : eff R s (.iaddr ar n e x' y') k = some r) (hx : Nx ren A b0 w0 N s a k r fun v w' => nxt (a.put o.dst v) w') : o.wp P a w nxt Q := by
  simp only [Bool.and_eq_true] at hc
  simp only [eff] at hk
  replace ⟨dx, hk, h1⟩ := opd_sound h hc.2.1 hk
  replace ⟨dy, hk, h2⟩ := opd_sound h hc.2.2 hk
  split at hk
  · rename_i j i
    have hi := h2.rv.int_inv
    have runS : ∀ (ad : Addr) (len cap : Nat), ar = false → 0 ≤ i → i < len → (Instr.indexAt t (.slice (some ad) len cap) (.int j i)).run P w = .ok (.pointer (some (ad.add (i.toNat * e)))) w := by
      intro ad len cap har h0 hlt
      have hsl := hc.1; subst har
      obtain ⟨el, hu, hs⟩ := slOk_get hsl
      simp only [Instr.indexAt, asIntOf, pure_bind, Sem.run_bind, run_und hu, Result.andThen_ok, Sem.run_pure, if_pos (And.intro h0 hlt), run_sz hs]
    have runA : ∀ (ad : Addr), ar = true → 0 ≤ i → i < n → (Instr.indexAt t (.pointer (some ad)) (.int j i)).run P w = .ok (.pointer (some (ad.add (i.toNat * e)))) w := by
      intro ad har h0 hlt
      have hsl := hc.1; subst har
      obtain ⟨el, hu, hs⟩ := arOk_get hsl
      simp only [Instr.indexAt, asIntOf, pure_bind, Sem.run_bind, run_und hu, Result.andThen_ok, Sem.run_pure, Instr.sureAddr, if_pos (And.intro h0 hlt), run_sz hs]
    have fin : ∀ (v : Value) (ad : Addr) (d : DV) (rd : List Nat), a.eval x = v → (Instr.indexAt t v (.int j i)).run P w = .ok (.pointer (some ad)) w → k { v := d, rd } = some r →
        Op1 ren A b0 φ s w (.pointer (some ad)) d → o.wp P a w nxt Q := by
      intro v ad d rd ev run hk h3
      exact wp_val (v := .pointer (some ad)) (w' := w) (by simp only [execOp, ho, ev, hi, Sem.run_bind, run, Result.andThen_ok, Sem.run_pure]) (hx.pure hk h h3)
    split at hk
    · rename_i τ l
      cases hee : (!ar && Nat.beq e τ.esz) with
      | false => simp [hee] at hk
      | true =>
      simp only [hee, cond_true] at hk
      simp only [Bool.and_eq_true, Bool.not_eq_true'] at hee
      obtain rfl := Nat.eq_of_beq_eq_true hee.2
      obtain ⟨q, hq, hk, h0, hlt⟩ := idx_get hk
      obtain ⟨ad, cap, vals, ev, hcap, hv, hm⟩ := h1.rv.sl_inv
      have hpos : 0 < (vals i.toNat).length := by rw [(hv _ _ hq).1, enc_len]; exact esz_pos τ
      obtain ⟨b, f, rfl⟩ := (hm _ _ hq).some hpos
      refine fin _ _ _ _ ev (runS _ _ _ hee.1 h0 hlt) hk ⟨.imm (vals i.toNat) (hv _ _ hq).1 (hv _ _ hq).2.1 (hv _ _ hq).2.2 fun j v hj => ?_, .imm (NamesOk.enc _ τ q)⟩
      obtain ⟨b', f', e1, g, c⟩ := hm _ _ hq j v hj
      cases e1
      exact ⟨b, f + i.toNat * τ.esz, by rw [Addr.add_none], g, by rw [show f + i.toNat * τ.esz + 0 + j = f + i.toNat * τ.esz + j by omega]; exact c⟩
    · rename_i m
      split at hk
      · rename_i τ l hb
        cases hee : (!ar && Nat.beq e τ.esz) with
        | false => simp [hee] at hk
        | true =>
        simp only [hee, cond_true] at hk
        simp only [Bool.and_eq_true, Bool.not_eq_true'] at hee
        obtain rfl := Nat.eq_of_beq_eq_true hee.2
        obtain ⟨q, hq, hk, h0, hlt⟩ := idx_get hk
        obtain ⟨hd, hφ, hR, _⟩ := h.sto m _ hb
        have e1 := h1.rv.lsl_inv
        rw [hφ] at e1; cases e1
        obtain ⟨ad, cap, ev, hcap, hor⟩ := hR
        rcases hor with hz | ⟨rb, b, rfl, _, _⟩
        · exfalso; omega
        · refine fin _ _ _ _ ev (runS _ _ _ hee.1 h0 hlt) hk ⟨?_, .lel _ _ _ ⟨_, hb⟩⟩
          rw [Addr.add_none]
          have := RV.lel (w := w) (G := Gd A b0 s φ w) (ren := ren) (e := τ.esz) (o := 0) (i := i) hφ (show hbase _ = some (rb, b) by rw [ev]; rfl)
          simpa using this
      · cases hk
    · rename_i m
      split at hk
      · rename_i τ l hb
        cases hee : (ar && (Nat.beq l.length n && Nat.beq e τ.esz)) with
        | false => simp [hee] at hk
        | true =>
        simp only [hee, cond_true] at hk
        simp only [Bool.and_eq_true] at hee
        obtain rfl := Nat.eq_of_beq_eq_true hee.2.1
        obtain rfl := Nat.eq_of_beq_eq_true hee.2.2
        obtain ⟨q, hq, hk, h0, hlt⟩ := idx_get hk
        obtain ⟨hd, hφ, hR, _⟩ := h.sto m _ hb
        obtain ⟨hd', rb, b, hφ', hbs, ev⟩ := h1.rv.loc_inv
        rw [hφ] at hφ'; cases hφ'
        refine fin _ _ _ _ ev (runA _ hee.1 h0 hlt) hk ⟨?_, .lel _ _ _ ⟨_, hb⟩⟩
        rw [Addr.add_none]
        have := RV.lel (w := w) (G := Gd A b0 s φ w) (ren := ren) (e := τ.esz) (o := 0) (i := i) hφ hbs
        simpa using this
      · cases hk
    · cases hk
  · cases hk

/-- The cells from an address on. -/
theorem at_sound (h : Rel ren A b0 w0 N φ s a w) {v : Value} {d : DV} (h1 : Op1 ren A b0 φ s w v d) {k : List DV → List Nat → Option DV} {r : DV} (hk : at_ s d k = some r) :
    ∃ ad cs rd vs, k cs rd = some r ∧ v = .pointer (some ad) ∧ RVs w (Gd A b0 s φ w) φ ren vs cs ∧ (∀ j u, vs[j]? = some u → w.cell? (ad.add j) = some u) ∧ ∀ c ∈ cs, NamesOk (Bnd s) c := by
  unfold at_ at hk
  split at hk
  · rename_i cs
    obtain ⟨rv, nm⟩ := h1
    cases rv with
    | imm vs g1 g2 g3 g4 =>
      rename_i ad
      refine ⟨ad, cs, [], vs, hk, rfl, ⟨g1, g2, g3⟩, fun j u hj => ?_, by cases nm; assumption⟩
      obtain ⟨b, f, e, g, c⟩ := g4 j u hj
      cases e
      rw [Addr.add_none]; simpa using c
  · rename_i n o
    split at hk
    · rename_i cs hb
      obtain ⟨hd, hφ, hR, _⟩ := h.sto n _ hb
      obtain ⟨hd', rb, b, hφ', hbs, ev⟩ := h1.rv.loc_inv
      rw [hφ] at hφ'; cases hφ'
      obtain ⟨r1, vs, rfl, g1, g2, g3⟩ := hR
      simp only [hbase, Option.some.injEq, Prod.mk.injEq] at hbs
      obtain ⟨rfl, rfl⟩ := hbs
      refine ⟨_, _, _, vs.drop o, hk, ev, g1.drop o, fun j u hj => ?_, fun c hc => h.nmb n cs hb c (List.mem_of_mem_drop hc)⟩
      rw [Addr.add_none]
      rw [List.getElem?_drop] at hj
      have := g2 _ _ hj
      rwa [← Nat.add_assoc] at this
    · cases hk
  · rename_i n e i o
    have key : ∀ (τ : Ty) (l : List (El τ)) (hb : blk s n = some (.row τ l) ∨ blk s n = some (.arr τ l)), (bif Nat.beq e τ.esz then (idx l i fun x => k ((enc τ x).drop o) [n]) else none) = some r →
        ∃ ad cs rd vs, k cs rd = some r ∧ v = .pointer (some ad) ∧ RVs w (Gd A b0 s φ w) φ ren vs cs ∧ (∀ j u, vs[j]? = some u → w.cell? (ad.add j) = some u) ∧ ∀ c ∈ cs, NamesOk (Bnd s) c := by
      intro τ l hb hk2
      cases hee : Nat.beq e τ.esz with
      | false => simp [hee] at hk2
      | true =>
      simp only [hee, cond_true] at hk2
      obtain rfl := Nat.eq_of_beq_eq_true hee
      obtain ⟨q, hq, hk3, h0, hlt⟩ := idx_get hk2
      obtain ⟨hd', rb, b, hφ', hbs, ev⟩ := h1.rv.lel_inv
      have hcells : ∃ vs, RVs w (Gd A b0 s φ w) φ ren vs (enc τ q) ∧ Has w rb (b + i.toNat * τ.esz) vs := by
        rcases hb with hb | hb
        · obtain ⟨hd, hφ, hR, _⟩ := h.sto n _ hb
          rw [hφ] at hφ'; cases hφ'
          obtain ⟨ad, cap, rfl, hcap, hor⟩ := hR
          rcases hor with hz | ⟨r2, b2, rfl, _, hcs⟩
          · exfalso; omega
          · simp only [hbase, Option.some.injEq, Prod.mk.injEq] at hbs
            obtain ⟨rfl, rfl⟩ := hbs
            exact hcs _ _ hq
        · obtain ⟨hd, hφ, hR, _⟩ := h.sto n _ hb
          rw [hφ] at hφ'; cases hφ'
          obtain ⟨r2, rfl, _, hcs⟩ := hR
          simp only [hbase, Option.some.injEq, Prod.mk.injEq] at hbs
          obtain ⟨rfl, rfl⟩ := hbs
          simpa using hcs _ _ hq
      obtain ⟨vs, g1, g2⟩ := hcells
      refine ⟨_, _, _, vs.drop o, hk3, ev, g1.drop o, fun j u hj => ?_, fun c hc => NamesOk.enc _ τ q c (List.mem_of_mem_drop hc)⟩
      rw [Addr.add_none]
      rw [List.getElem?_drop] at hj
      have := g2 _ _ hj
      rwa [show b + i.toNat * τ.esz + (o + j) = b + (i.toNat * τ.esz + o) + j by omega] at this
    split at hk
    · rename_i τ l hb; exact key τ l (.inl hb) hk
    · rename_i τ l hb; exact key τ l (.inr hb) hk
    · cases hk
  · cases hk

theorem takeN_mem {cs ds : List DV} {n : Nat} (ht : Bz.takeN n cs = some ds) : ∀ d ∈ ds, d ∈ cs := by
  induction n generalizing cs ds with
  | zero => simp only [Bz.takeN, Option.some.injEq] at ht; subst ht; simp
  | succ n ih =>
    cases cs with
    | nil => simp [Bz.takeN] at ht
    | cons d cs =>
      simp only [Bz.takeN] at ht
      cases hc : Bz.takeN n cs with
      | none => simp [hc] at ht
      | some l =>
        simp only [hc, Option.some.injEq] at ht; subst ht
        intro x hx
        rcases List.mem_cons.1 hx with rfl | hx
        · simp
        · exact List.mem_cons_of_mem _ (ih hc x hx)
def ldOk (P : Program) (t : TypeId) : Option Nat → Bool
  | none => aggOk P t false
  | some m => aggOk P t true && szOk P t m
theorem run_loadVar1 {P : Program} {t : TypeId} {ad : Addr} {u : Value} (hc : aggOk P t false = true) (hu : w.cell? ad = some u) : (loadVar t ad).run P w = .ok u w := by
  simp [loadVar, run_agg hc, hu]
theorem run_loadVarN {P : Program} {t : TypeId} {ad : Addr} {vs : List Value} (hc : aggOk P t true = true) (hs : szOk P t vs.length = true) (hv : ∀ j u, vs[j]? = some u → w.cell? (ad.add j) = some u) :
    (loadVar t ad).run P w = .ok (.agg vs.toArray) w := by
  simp [loadVar, run_agg hc, run_sz hs, run_loadCells_list (P := P) w ad vs hv]
theorem Addr.add_zero (ad : Addr) : ad.add 0 = ad := by simp [Addr.add]
theorem s_load {t : TypeId} {m : Option Nat} {x : Operand} {x' : Opd} (ho : o.op = .load t x) (hc : (ldOk P t m && opdOk ren x x') = true)
    (h : Rel ren A b0 w0 N φ s a w) (hk : eff R s (.load m x') k = some r) (hx : Nx ren A b0 w0 N s a k r fun v w' => nxt (a.put o.dst v) w') : o.wp P a w nxt Q := by
  simp only [Bool.and_eq_true] at hc
  simp only [eff] at hk
  replace ⟨dx, hk, h1⟩ := opd_sound h hc.2 hk
  replace ⟨ad, cs, rd, vs, hk, ev, hvs, hcell, hnm⟩ := at_sound h h1 hk
  split at hk
  · split at hk
    · rename_i c cs
      obtain ⟨u, vs', rfl, _, g2, _⟩ := hvs.uncons
      have := hcell 0 u rfl
      rw [Addr.add_zero] at this
      exact wp_val (v := u) (w' := w) (by simp only [execOp, ho, ev, Instr.loadAt, Instr.sureAddr, pure_bind, Sem.run_bind, run_loadVar1 hc.1 this, Result.andThen_ok, Sem.run_pure]) (hx.pure hk h ⟨g2, hnm _ (by simp)⟩)
    · cases hk
  · rename_i m
    split at hk
    · rename_i ds hds
      have hl := takeN_len hds
      have g := hvs.takeN hds
      have hlen : (vs.take m).length = m := by rw [g.1, hl.1]
      have hc1 := hc.1
      simp only [ldOk, Bool.and_eq_true] at hc1
      have hcell' : ∀ j u, (vs.take m)[j]? = some u → w.cell? (ad.add j) = some u := by
        intro j u hj
        have hlt : j < (vs.take m).length := (List.getElem?_eq_some_iff.1 hj).1
        rw [List.getElem?_take_of_lt (by omega)] at hj
        exact hcell j u hj
      refine wp_val (v := .agg (vs.take m).toArray) (w' := w) (by simp only [execOp, ho, ev, Instr.loadAt, Instr.sureAddr, pure_bind, Sem.run_bind, run_loadVarN hc1.1 (by rw [hlen]; exact hc1.2) hcell', Result.andThen_ok, Sem.run_pure])
        (hx.pure hk h ⟨.agg (by simpa using g.1) (by simpa using g.2.1) (by simpa using g.2.2), .agg fun d hd => hnm d (takeN_mem hds d hd)⟩)
    · cases hk
end
end Bz
