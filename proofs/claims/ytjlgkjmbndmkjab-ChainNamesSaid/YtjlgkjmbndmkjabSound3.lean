/- How a run's state stands to a state over plain data; what moves do to it. -/
import Derived.Test.YtjlgkjmbndmkjabSound2
set_option linter.all false
set_option linter.unusedVariables false
namespace Bz
open Go Go.RowKit

/-- These values lie in the block r from o on. -/
def Has (w : World) (r o : Nat) (vs : List Value) : Prop := ∀ j v, vs[j]? = some v → w.cell? ⟨r, o + j, none⟩ = some v
/-- So many cells from o on can be written. -/
def Wri (w : World) (r o n : Nat) : Prop := ∀ j, j < n → (∃ v, w.cell? ⟨r, o + j, none⟩ = some v) ∧ w.frozen? ⟨r, o + j, none⟩ = false

def ownr : Value → Option Nat
  | .pointer (some a) => some a.block
  | .slice (some a) _ (_ + 1) => some a.block
  | .map (some r) => some r
  | _ => none

section
variable (w : World) (G : Nat → Prop) (φ : Nat → Option Value) (ren : Nat → Option Nat)
def RB (h : Value) : Blk → Prop
  | .box cs => ∃ r vs, h = .pointer (some ⟨r, 0, none⟩) ∧ RVs w G φ ren vs cs ∧ Has w r 0 vs ∧ Wri w r 0 vs.length
  | .row τ l => ∃ ad cap, h = .slice ad l.length cap ∧ l.length ≤ cap ∧ (cap = 0 ∨ ∃ r b, ad = some ⟨r, b, none⟩ ∧ Wri w r b (cap * τ.esz) ∧
      ∀ i x, l[i]? = some x → ∃ vs, RVs w G φ ren vs (enc τ x) ∧ Has w r (b + i * τ.esz) vs)
  | .arr τ l => ∃ r, h = .pointer (some ⟨r, 0, none⟩) ∧ Wri w r 0 (l.length * τ.esz) ∧
      ∀ i x, l[i]? = some x → ∃ vs, RVs w G φ ren vs (enc τ x) ∧ Has w r (i * τ.esz) vs
  | .map ag l => ∃ r es clock, h = .map (some r) ∧ w.heap[r]? = some (.map es clock) ∧ ((es.toList.map (·.born)).Nodup ∧ ∀ e ∈ es.toList, e.born < clock) ∧ es.toList.length = l.length ∧
      ∀ (i : Nat) e kc v, es.toList[i]? = some e → l[i]? = some (kc, v) → (∃ us : List Value, RVs w G φ ren us kc ∧ e.key = (bif ag then .agg us.toArray else us.headD undef)) ∧ RV w G φ ren e.val v ∧ (∀ d ∈ kc, NamesOk (fun _ => False) d) ∧ NamesOk (fun _ => False) v
  | .gone => False
end

def Bnd (s : St) (n : Nat) : Prop := ∃ b, blk s n = some b
/-- The blocks that are written to. -/
def Wn (s : St) (φ : Nat → Option Value) (r : Nat) : Prop := ∃ n b h, blk s n = some b ∧ φ n = some h ∧ ownr h = some r
/-- The blocks that may be read for good. -/
def Gd (A : Nat → Prop) (b0 : Nat) (s : St) (φ : Nat → Option Value) (w : World) (r : Nat) : Prop := r < w.heap.size ∧ ¬ Wn s φ r ∧ (r < b0 → A r)

structure Rel (ren : Nat → Option Nat) (A : Nat → Prop) (b0 : Nat) (w0 : World) (N : Nat) (φ : Nat → Option Value) (s : St) (a : Act) (w : World) : Prop where
  below : Below b0 w0 w
  b0le : b0 ≤ w.heap.size
  dn : a.defers = []
  sz : a.tmps.size = N
  env : ∀ t d, look s.env t = some d → RV w (Gd A b0 s φ w) φ ren (a.tmps.getD t undef) d
  nm : ∀ t d, look s.env t = some d → NamesOk (Bnd s) d
  sto : ∀ n b, blk s n = some b → ∃ h, φ n = some h ∧ RB w (Gd A b0 s φ w) φ ren h b ∧ ∀ r, ownr h = some r → b0 ≤ r ∧ r < w.heap.size
  nmb : ∀ n cs, blk s n = some (.box cs) → ∀ d ∈ cs, NamesOk (Bnd s) d
  inj : ∀ n m b c h k r, blk s n = some b → blk s m = some c → φ n = some h → φ m = some k → ownr h = some r → ownr k = some r → n = m

/-- The world turns at these blocks and at new ones alone. -/
structure Turn (w w' : World) (X : Nat → Prop) : Prop where
  os : w'.os = w.os
  tape : w'.tape = w.tape
  output : w'.output = w.output
  size : w.heap.size ≤ w'.heap.size
  block : ∀ k, k < w.heap.size → ¬ X k → w'.heap[k]? = w.heap[k]?

theorem Turn.refl (w : World) (X : Nat → Prop) : Turn w w X := ⟨rfl, rfl, rfl, Nat.le_refl _, fun _ _ _ => rfl⟩
theorem Turn.alloc (w : World) (o : Go.Obj) (X : Nat → Prop) : Turn w (w.alloc o) X :=
  ⟨rfl, rfl, rfl, by simp, fun k hk _ => by show (w.heap.push o)[k]? = _; rw [Array.getElem?_push, if_neg (by omega)]⟩
theorem Turn.drew (w : World) (X : Nat → Prop) : Turn w w.drew X := ⟨rfl, rfl, rfl, Nat.le_refl _, fun _ _ _ => rfl⟩
theorem Turn.trans {a b c : World} {X : Nat → Prop} (h : Turn a b X) (k : Turn b c X) : Turn a c X :=
  ⟨k.os.trans h.os, k.tape.trans h.tape, k.output.trans h.output, Nat.le_trans h.size k.size, fun i hi hx => (k.block i (Nat.lt_of_lt_of_le hi h.size) hx).trans (h.block i hi hx)⟩
theorem Turn.cell {w w' : World} {X : Nat → Prop} (h : Turn w w' X) {a : Addr} (h1 : a.block < w.heap.size) (h2 : ¬ X a.block) : w'.cell? a = w.cell? a :=
  World.cell?_of_block (w := w) (h.block a.block h1 h2)
theorem Turn.frozen {w w' : World} {X : Nat → Prop} (h : Turn w w' X) {a : Addr} (h1 : a.block < w.heap.size) (h2 : ¬ X a.block) : w'.frozen? a = w.frozen? a :=
  World.frozen?_of_block (w := w) (h.block a.block h1 h2)
theorem Turn.below {w0 w w' : World} {X : Nat → Prop} {b0 : Nat} (hb : Below b0 w0 w) (hle : b0 ≤ w.heap.size) (h : Turn w w' X) (hX : ∀ k, X k → b0 ≤ k) : Below b0 w0 w' :=
  hb.trans ⟨h.os, h.tape, h.output, h.size, fun k hk => h.block k (by omega) (fun hx => by have := hX k hx; omega)⟩
theorem Turn.of_below {w w' : World} (h : Below w.heap.size w w') (X : Nat → Prop) : Turn w w' X :=
  ⟨h.os, h.tape, h.output, h.size, fun k hk _ => h.block k hk⟩

theorem Has.turn {w w' : World} {X : Nat → Prop} {r o : Nat} {vs : List Value} (h : Has w r o vs) (t : Turn w w' X) (h1 : r < w.heap.size) (h2 : ¬ X r) : Has w' r o vs :=
  fun j v hj => (t.cell (a := ⟨r, o + j, none⟩) h1 h2).trans (h j v hj)
theorem Wri.turn {w w' : World} {X : Nat → Prop} {r o n : Nat} (h : Wri w r o n) (t : Turn w w' X) (h1 : r < w.heap.size) (h2 : ¬ X r) : Wri w' r o n :=
  fun j hj => by
    rw [t.cell (a := ⟨r, o + j, none⟩) h1 h2, t.frozen (a := ⟨r, o + j, none⟩) h1 h2]; exact h j hj

section
variable {w : World} {G : Nat → Prop} {φ : Nat → Option Value} {ren : Nat → Option Nat}
theorem RB.turn {w' : World} {G' : Nat → Prop} {φ' : Nat → Option Value} {X : Nat → Prop} {h : Value} {b : Blk} (k : RB w G φ ren h b)
    (t : Turn w w' X) (hG : ∀ r, G r → G' r) (hg : ∀ r, G r → r < w.heap.size ∧ ¬ X r) (ho : ∀ r, ownr h = some r → r < w.heap.size ∧ ¬ X r)
    (hn : ∀ cs, b = .box cs → ∀ d ∈ cs, NamesOk (fun n => φ' n = φ n) d) : RB w' G' φ' ren h b := by
  have hc : ∀ a : Addr, G a.block → w'.cell? a = w.cell? a := fun a ha => t.cell (hg _ ha).1 (hg _ ha).2
  cases b with
  | box cs =>
    obtain ⟨r, vs, rfl, h1, h2, h3⟩ := k
    have := ho r rfl
    exact ⟨r, vs, rfl, h1.mono hG hc (hn cs rfl), h2.turn t this.1 this.2, h3.turn t this.1 this.2⟩
  | row τ l =>
    obtain ⟨ad, cap, rfl, h1, h2⟩ := k
    refine ⟨ad, cap, rfl, h1, ?_⟩
    rcases h2 with h2 | ⟨r, o, rfl, h3, h4⟩
    · exact .inl h2
    · cases cap with
      | zero => exact .inl rfl
      | succ cap =>
        have := ho r rfl
        refine .inr ⟨r, o, rfl, h3.turn t this.1 this.2, fun i x hi => ?_⟩
        obtain ⟨vs, h5, h6⟩ := h4 i x hi
        exact ⟨vs, (h5.pure φ').mono hG hc (fun d hd => NamesOk.enc _ τ x d hd), h6.turn t this.1 this.2⟩
  | arr τ l =>
    obtain ⟨r, rfl, h3, h4⟩ := k
    have := ho r rfl
    refine ⟨r, rfl, h3.turn t this.1 this.2, fun i x hi => ?_⟩
    obtain ⟨vs, h5, h6⟩ := h4 i x hi
    exact ⟨vs, (h5.pure φ').mono hG hc (fun d hd => NamesOk.enc _ τ x d hd), h6.turn t this.1 this.2⟩
  | map ag l =>
    obtain ⟨r, es, clock, rfl, h1, hst, h2, h3⟩ := k
    have := ho r rfl
    refine ⟨r, es, clock, rfl, (t.block r this.1 this.2).trans h1, hst, h2, fun i e kc v he hl => ?_⟩
    obtain ⟨⟨us, h4, h4'⟩, h5, h6, h7⟩ := h3 i e kc v he hl
    exact ⟨⟨us, h4.mono hG hc (fun d hd => (h6 d hd).imp (fun _ hf => hf.elim)), h4'⟩, h5.mono hG hc (h7.imp (fun _ hf => hf.elim)), h6, h7⟩
  | gone => exact k.elim
end

section
variable {ren : Nat → Option Nat} {A : Nat → Prop} {b0 : Nat} {w0 : World} {N : Nat} {φ : Nat → Option Value} {s : St} {a : Act} {w : World}

theorem blk_put (dst : Option Nat) (d : DV) (n : Nat) : blk (s.put dst d) n = blk s n := by cases dst <;> rfl

theorem look_cons {α : Type} (m : Nat) (v : α) (r : List (Nat × α)) (n : Nat) : look ((m, v) :: r) n = if m = n then some v else look r n := by
  simp only [look]
  by_cases h : m = n
  · subst h; simp
  · have : Nat.beq m n = false := by
      cases hb : Nat.beq m n with
      | false => rfl
      | true => exact absurd (Nat.eq_of_beq_eq_true hb) h
    simp [this, h]

/-- A temporary is written. -/
theorem Rel.put (h : Rel ren A b0 w0 N φ s a w) {dst : Option Nat} {v : Value} {d : DV} (hd : ∀ t, dst = some t → t < N)
    (hv : RV w (Gd A b0 s φ w) φ ren v d) (hn : NamesOk (Bnd s) d) : Rel ren A b0 w0 N φ (s.put dst d) (a.put dst v) w := by
  cases dst with
  | none => exact h
  | some t =>
    refine ⟨h.below, h.b0le, h.dn, by simpa [Act.put] using h.sz, ?_, ?_, h.sto, h.nmb, h.inj⟩
    · intro u e he
      simp only [St.put, look_cons] at he
      have ht := hd t rfl
      by_cases hu : t = u
      · subst hu
        simp only [if_true, Option.some.injEq] at he
        subst he
        have : (a.put (some t) v).tmps.getD t undef = v := by
          simp only [Act.put, Array.getD_eq_getD_getElem?]
          rw [Array.getElem?_setIfInBounds]
          simp [h.sz, ht]
        rw [this]; exact hv
      · simp only [hu, if_false] at he
        have : (a.put (some t) v).tmps.getD u undef = a.tmps.getD u undef := by
          simp only [Act.put, Array.getD_eq_getD_getElem?]
          rw [Array.getElem?_setIfInBounds]
          simp [hu]
        rw [this]; exact h.env u e he
    · intro u e he
      simp only [St.put, look_cons] at he
      by_cases hu : t = u
      · subst hu; simp only [if_true, Option.some.injEq] at he; subst he; exact hn
      · simp only [hu, if_false] at he; exact h.nm u e he

/-- The world has drawn. -/
theorem Rel.drew (h : Rel ren A b0 w0 N φ s a w) : Rel ren A b0 w0 N φ s a w.drew := by
  have t : Turn w w.drew (fun _ => False) := Turn.drew w _
  refine ⟨t.below h.below h.b0le (fun _ h => h.elim), h.b0le, h.dn, h.sz, ?_, h.nm, ?_, h.nmb, h.inj⟩
  · exact fun t d hd => RV.mono (w := w) (w' := w.drew) (G := Gd A b0 s φ w) (G' := Gd A b0 s φ w.drew) (φ' := φ) (fun _ h => h) (fun _ _ => rfl) (h.env t d hd) ((h.nm t d hd).imp fun _ _ => rfl)
  · intro n b hb
    obtain ⟨k, h1, h2, h3⟩ := h.sto n b hb
    exact ⟨k, h1, h2.turn t (fun _ h => h) (fun r hr => ⟨hr.1, id⟩) (fun r hr => ⟨(h3 r hr).2, id⟩) (fun cs hc d hd => (h.nmb n cs (hc ▸ hb) d hd).imp fun _ _ => rfl), h3⟩

/-- The content of a bound block is another. -/
theorem Rel.write (h : Rel ren A b0 w0 N φ s a w) {n : Nat} {b b' : Blk} {k : Value} {w' : World} (hb : blk s n = some b) (hk : φ n = some k)
    (ht : Turn w w' fun r => ownr k = some r) (hsz : w'.heap.size = w.heap.size)
    (hR : RB w' (Gd A b0 s φ w') φ ren k b') (hnm : ∀ cs, b' = .box cs → ∀ d ∈ cs, NamesOk (Bnd s) d) (hg : b' ≠ .gone) :
    Rel ren A b0 w0 N φ { s with sto := (n, b') :: s.sto } a w' := by
  have eb : ∀ m, blk { s with sto := (n, b') :: s.sto } m = if n = m then some b' else blk s m := by
    intro m
    unfold blk
    simp only [look_cons]
    by_cases hm : n = m
    · subst hm; simp only [if_true]; cases b' <;> simp_all
    · simp only [hm, if_false]
  have eB : ∀ m, Bnd { s with sto := (n, b') :: s.sto } m ↔ Bnd s m := by
    intro m
    unfold Bnd
    rw [eb]
    by_cases hm : n = m
    · subst hm; simp [hb]
    · simp [hm]
  have eW : ∀ r, Wn { s with sto := (n, b') :: s.sto } φ r ↔ Wn s φ r := by
    intro r
    constructor
    · rintro ⟨m, c, k', h1, h2, h3⟩
      obtain ⟨c', hc'⟩ := (eB m).1 ⟨c, h1⟩
      exact ⟨m, c', k', hc', h2, h3⟩
    · rintro ⟨m, c, k', h1, h2, h3⟩
      obtain ⟨c', hc'⟩ := (eB m).2 ⟨c, h1⟩
      exact ⟨m, c', k', hc', h2, h3⟩
  have eG : ∀ (W : World) r, Gd A b0 { s with sto := (n, b') :: s.sto } φ W r ↔ Gd A b0 s φ W r := by
    intro W r; unfold Gd; rw [eW]
  have hG : ∀ r, Gd A b0 s φ w r → Gd A b0 { s with sto := (n, b') :: s.sto } φ w' r := by
    intro r hr; rw [eG]; exact ⟨by rw [hsz]; exact hr.1, hr.2⟩
  have hgt : ∀ r, Gd A b0 s φ w r → r < w.heap.size ∧ ¬ ownr k = some r := fun r hr => ⟨hr.1, fun e => hr.2.1 ⟨n, b, k, hb, hk, e⟩⟩
  have hcell : ∀ x : Addr, Gd A b0 s φ w x.block → w'.cell? x = w.cell? x := fun x hx => ht.cell (hgt _ hx).1 (hgt _ hx).2
  refine ⟨ht.below h.below h.b0le ?_, by rw [hsz]; exact h.b0le, h.dn, h.sz, ?_, ?_, ?_, ?_, ?_⟩
  · intro r hr
    obtain ⟨k', h1, _, h3⟩ := h.sto n b hb
    rw [hk] at h1; cases h1
    exact (h3 r hr).1
  · exact fun t d hd => (h.env t d hd).mono hG hcell ((h.nm t d hd).imp fun _ _ => rfl)
  · exact fun t d hd => (h.nm t d hd).imp fun m hm => (eB m).2 hm
  · intro m c hc
    rw [eb] at hc
    by_cases hm : n = m
    · subst hm
      simp only [if_true, Option.some.injEq] at hc
      subst hc
      obtain ⟨k', h1, _, h3⟩ := h.sto n b hb
      rw [hk] at h1; cases h1
      refine ⟨k, hk, ?_, fun r hr => by rw [hsz]; exact h3 r hr⟩
      have e : Gd A b0 { s with sto := (n, b') :: s.sto } φ w' = Gd A b0 s φ w' := funext fun r => propext (eG w' r)
      rw [e]; exact hR
    · simp only [hm, if_false] at hc
      obtain ⟨k', h1, h2, h3⟩ := h.sto m c hc
      refine ⟨k', h1, h2.turn ht hG hgt (fun r hr => ⟨(h3 r hr).2, fun e => hm (h.inj n m b c k k' r hb hc hk h1 e hr)⟩)
        (fun cs hcs d hd => (h.nmb m cs (hcs ▸ hc) d hd).imp fun _ _ => rfl), fun r hr => by rw [hsz]; exact h3 r hr⟩
  · intro m cs hc
    rw [eb] at hc
    by_cases hm : n = m
    · subst hm
      simp only [if_true, Option.some.injEq] at hc
      exact fun d hd => (hnm cs hc d hd).imp fun x hx => (eB x).2 hx
    · simp only [hm, if_false] at hc
      exact fun d hd => (h.nmb m cs hc d hd).imp fun x hx => (eB x).2 hx
  · intro m m' c c' k1 k2 r h1 h2 h3 h4 h5 h6
    obtain ⟨c1, hc1⟩ := (eB m).1 ⟨c, h1⟩
    obtain ⟨c2, hc2⟩ := (eB m').1 ⟨c', h2⟩
    exact h.inj m m' c1 c2 k1 k2 r hc1 hc2 h3 h4 h5 h6

/-- Names are taken away (what named them is unknown from now on) and one is bound anew. -/
theorem Rel.bind (h : Rel ren A b0 w0 N φ s a w) {s' : St} {φ' : Nat → Option Value} {w' : World} (R : Nat → Prop) {nm : Nat} {b' : Blk} {k : Value}
    (hs : blk s' nm = some b') (hk : φ' nm = some k) (hφ : ∀ n, n ≠ nm → φ' n = φ n) (hnew : R nm ∨ ¬ Bnd s nm)
    (he : ∀ t d, look s'.env t = some d → d = .unk ∨ (look s.env t = some d ∧ NamesOk (fun n => ¬ R n) d))
    (hb1 : ∀ n, n ≠ nm → R n → blk s' n = none)
    (hb2 : ∀ n, n ≠ nm → ¬ R n → ∀ c, blk s' n = some c → ∃ b, blk s n = some b ∧
      ((c = b ∧ ∀ cs, b = .box cs → ∀ d ∈ cs, NamesOk (fun m => ¬ R m) d) ∨
       ∃ cs ds, b = .box cs ∧ c = .box ds ∧ ds.length = cs.length ∧ ∀ (j : Nat) (d : DV), ds[j]? = some d → d = .unk ∨ (cs[j]? = some d ∧ NamesOk (fun m => ¬ R m) d)))
    (hb3 : ∀ n, n ≠ nm → ¬ R n → Bnd s n → Bnd s' n)
    (ht : Turn w w' fun r => ∃ n b h, R n ∧ blk s n = some b ∧ φ n = some h ∧ ownr h = some r)
    (ho : ∀ r, ownr k = some r → r < w'.heap.size ∧ (w.heap.size ≤ r ∨ ∃ n b h, R n ∧ blk s n = some b ∧ φ n = some h ∧ ownr h = some r))
    (hR : (∀ r, Gd A b0 s φ w r → Gd A b0 s' φ' w' r) → RB w' (Gd A b0 s' φ' w') φ' ren k b') (hnm : ∀ cs, b' = .box cs → ∀ d ∈ cs, NamesOk (Bnd s') d) :
    Rel ren A b0 w0 N φ' s' a w' ∧ (∀ r, Gd A b0 s φ w r → Gd A b0 s' φ' w' r) := by
  have old : ∀ n, n ≠ nm → ∀ c, blk s' n = some c → ¬ R n ∧ Bnd s n := by
    intro n hn c hc
    by_cases hr : R n
    · rw [hb1 n hn hr] at hc; cases hc
    · obtain ⟨b, hb, _⟩ := hb2 n hn hr c hc; exact ⟨hr, b, hb⟩
  have hG : ∀ r, Gd A b0 s φ w r → Gd A b0 s' φ' w' r := by
    rintro r ⟨h1, h2, h3⟩
    refine ⟨Nat.lt_of_lt_of_le h1 ht.size, ?_, h3⟩
    rintro ⟨n, c, k', g1, g2, g3⟩
    by_cases hn : n = nm
    · subst hn
      rw [hk] at g2; cases g2
      rcases (ho r g3).2 with g | ⟨m, b, k'', _, g5, g6, g7⟩
      · omega
      · exact h2 ⟨m, b, k'', g5, g6, g7⟩
    · obtain ⟨_, b, hb⟩ := old n hn c g1
      rw [hφ n hn] at g2
      exact h2 ⟨n, b, k', hb, g2, g3⟩
  have hgt : ∀ r, Gd A b0 s φ w r → r < w.heap.size ∧ ¬ ∃ n b h, R n ∧ blk s n = some b ∧ φ n = some h ∧ ownr h = some r :=
    fun r hr => ⟨hr.1, fun ⟨n, b, k', _, g1, g2, g3⟩ => hr.2.1 ⟨n, b, k', g1, g2, g3⟩⟩
  have hcell : ∀ x : Addr, Gd A b0 s φ w x.block → w'.cell? x = w.cell? x := fun x hx => ht.cell (hgt _ hx).1 (hgt _ hx).2
  -- a name that is bound and is not taken away is another one
  have keep : ∀ {d : DV}, NamesOk (Bnd s) d → NamesOk (fun n => ¬ R n) d → NamesOk (fun n => n ≠ nm ∧ ¬ R n ∧ Bnd s n) d := by
    intro d h1 h2
    induction h1 with
    | unk => exact .unk
    | skp => exact .skp
    | bool b => exact .bool b
    | int k n => exact .int k n
    | float b => exact .float b
    | str s => exact .str s
    | sl τ l => exact .sl τ l
    | own τ l => exact .own τ l
    | nsl τ => exact .nsl τ
    | fsl τ l => exact .fsl τ l
    | arr τ l => exact .arr τ l
    | agg _ ih => cases h2 with | agg h2 => exact .agg fun d hd => ih d hd (h2 d hd)
    | tup _ ih => cases h2 with | tup h2 => exact .tup fun d hd => ih d hd (h2 d hd)
    | imm _ ih => cases h2 with | imm h2 => exact .imm fun d hd => ih d hd (h2 d hd)
    | fn g _ ih => cases h2 with | fn _ h2 => exact .fn g fun d hd => ih d hd (h2 d hd)
    | @loc n o hb => cases h2 with | loc _ hr => exact .loc o ⟨fun e => hnew.elim (fun g => hr (e ▸ g)) fun g => g (e ▸ hb), hr, hb⟩
    | @lel n e i o hb => cases h2 with | lel _ _ _ hr => exact .lel e i o ⟨fun e => hnew.elim (fun g => hr (e ▸ g)) fun g => g (e ▸ hb), hr, hb⟩
    | @lsl n hb => cases h2 with | lsl hr => exact .lsl ⟨fun e => hnew.elim (fun g => hr (e ▸ g)) fun g => g (e ▸ hb), hr, hb⟩
  refine ⟨⟨ht.below h.below h.b0le ?_, Nat.le_trans h.b0le ht.size, h.dn, h.sz, ?_, ?_, ?_, ?_, ?_⟩, hG⟩
  · rintro r ⟨n, b, k', _, g1, g2, g3⟩
    obtain ⟨k'', h1, _, h3⟩ := h.sto n b g1
    rw [g2] at h1; cases h1
    exact (h3 r g3).1
  · intro t d hd
    rcases he t d hd with rfl | ⟨h1, h2⟩
    · exact .unk _
    · exact (h.env t d h1).mono hG hcell ((keep (h.nm t d h1) h2).imp fun n hn => hφ n hn.1)
  · intro t d hd
    rcases he t d hd with rfl | ⟨h1, h2⟩
    · exact .unk
    · exact (keep (h.nm t d h1) h2).imp fun n hn => hb3 n hn.1 hn.2.1 hn.2.2
  · intro n c hc
    by_cases hn : n = nm
    · subst hn
      rw [hs] at hc; cases hc
      refine ⟨k, hk, hR hG, fun r hr => ⟨?_, (ho r hr).1⟩⟩
      rcases (ho r hr).2 with g | ⟨m, b, k'', _, g5, g6, g7⟩
      · exact Nat.le_trans h.b0le g
      · obtain ⟨k3, h1, _, h3⟩ := h.sto m b g5
        rw [g6] at h1; cases h1
        exact (h3 r g7).1
    · obtain ⟨hr, _⟩ := old n hn c hc
      obtain ⟨b, hb, hcase⟩ := hb2 n hn hr c hc
      obtain ⟨k', h1, h2, h3⟩ := h.sto n b hb
      have hown : ∀ r, ownr k' = some r → r < w.heap.size ∧ ¬ ∃ n b h, R n ∧ blk s n = some b ∧ φ n = some h ∧ ownr h = some r := by
        intro r hr'
        refine ⟨(h3 r hr').2, ?_⟩
        rintro ⟨m, b2, k2, g1, g2, g3, g4⟩
        have := h.inj n m b b2 k' k2 r hb g2 h1 g3 hr' g4
        subst this; exact hr g1
      refine ⟨k', by rw [hφ n hn]; exact h1, ?_, fun r hr' => ⟨(h3 r hr').1, Nat.lt_of_lt_of_le (h3 r hr').2 ht.size⟩⟩
      rcases hcase with ⟨rfl, hbn⟩ | ⟨cs, ds, rfl, rfl, hlen, hds⟩
      · exact h2.turn ht hG hgt hown fun cs hcs d hd => (keep (h.nmb n cs (hcs ▸ hb) d hd) (hbn cs hcs d hd)).imp fun m hm => hφ m hm.1
      · obtain ⟨r, vs, rfl, g1, g2, g3⟩ := h2
        have := hown r rfl
        refine ⟨r, vs, rfl, ⟨by rw [g1.1, hlen], g1.2.1, fun j v d hj hd => ?_⟩, g2.turn ht this.1 this.2, g3.turn ht this.1 this.2⟩
        rcases hds j d hd with rfl | ⟨q1, q2⟩
        · exact .unk _
        · exact (g1.2.2 j v d hj q1).mono hG hcell ((keep (h.nmb n cs hb d (List.mem_of_getElem? q1)) q2).imp fun m hm => hφ m hm.1)
  · intro n cs hc d hd
    by_cases hn : n = nm
    · subst hn; rw [hs] at hc; cases hc; exact hnm cs rfl d hd
    · obtain ⟨hr, _⟩ := old n hn _ hc
      obtain ⟨b, hb, hcase⟩ := hb2 n hn hr _ hc
      rcases hcase with ⟨rfl, hbn⟩ | ⟨cs', ds, rfl, hcd, hlen, hds⟩
      · exact (keep (h.nmb n cs hb d hd) (hbn cs rfl d hd)).imp fun m hm => hb3 m hm.1 hm.2.1 hm.2.2
      · cases hcd
        obtain ⟨j, hj⟩ := List.getElem?_of_mem hd
        rcases hds j d hj with rfl | ⟨q1, q2⟩
        · exact .unk
        · exact (keep (h.nmb n cs' hb d (List.mem_of_getElem? q1)) q2).imp fun m hm => hb3 m hm.1 hm.2.1 hm.2.2
  · intro n m c c' k1 k2 r h1 h2 h3 h4 h5 h6
    by_cases hn : n = nm <;> by_cases hm : m = nm
    · rw [hn, hm]
    · exfalso
      subst hn
      obtain ⟨hr, c2, hc2⟩ := old m hm c' h2
      rw [hk] at h3; cases h3
      rw [hφ m hm] at h4
      rcases (ho r h5).2 with g | ⟨x, b, k'', g4, g5, g6, g7⟩
      · obtain ⟨k3, q1, _, q3⟩ := h.sto m c2 hc2
        rw [h4] at q1; cases q1
        have := (q3 r h6).2; omega
      · have := h.inj m x c2 b k2 k'' r hc2 g5 h4 g6 h6 g7
        subst this; exact hr g4
    · exfalso
      subst hm
      obtain ⟨hr, c2, hc2⟩ := old n hn c h1
      rw [hk] at h4; cases h4
      rw [hφ n hn] at h3
      rcases (ho r h6).2 with g | ⟨x, b, k'', g4, g5, g6, g7⟩
      · obtain ⟨k3, q1, _, q3⟩ := h.sto n c2 hc2
        rw [h3] at q1; cases q1
        have := (q3 r h5).2; omega
      · have := h.inj n x c2 b k1 k'' r hc2 g5 h3 g6 h5 g7
        subst this; exact hr g4
    · obtain ⟨_, c1, hc1⟩ := old n hn c h1
      obtain ⟨_, c2, hc2⟩ := old m hm c' h2
      rw [hφ n hn] at h3; rw [hφ m hm] at h4
      exact h.inj n m c1 c2 k1 k2 r hc1 hc2 h3 h4 h5 h6
end
end Bz
