/- Code, results, functions. -/
import Derived.Test.YtjlgkjmbndmkjabSoundR
import Derived.Scope
set_option linter.all false
set_option linter.unusedVariables false
namespace Bz
open Go Go.RowKit

def exOf : Ex → Exit
  | .nrm => .normal
  | .ex id => .exit id
  | .ret => .ret

/-- A region's operations, cut into pieces. -/
def segsOk (P : Program) (ren : Nat → Option Nat) (N : Nat) (ops : Array Oper) : List Oper → DC → Bool
  | os, .ops l => dosOk P ren N ops os l
  | os, .opsc l _ _ x => dosOk P ren N ops (os.take l.length) l && segsOk P ren N ops (os.drop l.length) x
  | _, _ => false
def chkC (P : Program) (ren : Nat → Option Nat) (N : Nat) : Code → DC → Bool
  | .skip, .skip => true
  | .label _, .skip => true
  | .ret, .ret => true
  | .exit i, .exit j => Nat.beq i j
  | .region _ ops false, .ops l => dosOk P ren N ops ops.toList l
  | .region _ ops false, .opsc l K S x => segsOk P ren N ops ops.toList (.opsc l K S x)
  | .region _ ops true, .draw l b => dosOk P ren N ops ops.toList l && (pairsOk b 0 l && edgesOk b 0 ops.toList)
  | .seq a b, .seq x y => chkC P ren N a x && chkC P ren N b y
  | .cond c a b, .cond d x y => opdOk ren c d && (chkC P ren N a x && chkC P ren N b y)
  | .block i a, .block j x => Nat.beq i j && chkC P ren N a x
  | .loop a, .loop _ _ x => chkC P ren N a x
  | .scope c, .sc x => chkC P ren N c x
  | c, .kp _ _ x => chkC P ren N c x
  | c, .rset x d ts => rsetOk P N c x d ts
  | _, _ => false

theorem names_all (f : Nat → Prop) (hf : ∀ n, f n) (d : DV) : NamesOk f d := by
  have h2 : ∀ (m : Nat) (d : DV), sizeOf d ≤ m → NamesOk f d := by
    intro m
    induction m with
    | zero => intro d hd; cases d <;> simp at hd
    | succ m ih =>
      intro d hd
      cases d with
      | agg cs => exact .agg fun c hc => ih c (by have := List.sizeOf_lt_of_mem hc; simp at hd; omega)
      | tup cs => exact .tup fun c hc => ih c (by have := List.sizeOf_lt_of_mem hc; simp at hd; omega)
      | imm cs => exact .imm fun c hc => ih c (by have := List.sizeOf_lt_of_mem hc; simp at hd; omega)
      | fn g cs => exact .fn g fun c hc => ih c (by have := List.sizeOf_lt_of_mem hc; simp at hd; omega)
      | unk => exact .unk
      | skp => exact .skp
      | bool b => exact .bool b
      | int k n => exact .int k n
      | float b => exact .float b
      | str s => exact .str s
      | sl τ l => exact .sl τ l
      | own τ l => exact .own τ l
      | nsl τ => exact .nsl τ
      | fsl τ l => exact .fsl τ l
      | arr τ l => exact .arr τ l
      | loc n o => exact .loc o (hf n)
      | lel n e i o => exact .lel e i o (hf n)
      | lsl n => exact .lsl (hf n)
  exact h2 _ d (Nat.le_refl _)
theorem names_any {φ : Nat → Option Value} (d : DV) : NamesOk (fun n => φ n = φ n) d := names_all _ (fun _ => rfl) d

theorem look_keepEnv {s : St} : ∀ {K : List Nat} {t : Nat} {d : DV}, look (keepEnv s K) t = some d → look s.env t = some d := by
  intro K
  induction K with
  | nil => intro t d h; cases h
  | cons u K ih =>
    intro t d h
    simp only [keepEnv] at h
    split at h
    · rename_i v hv
      simp only [look_cons] at h
      split at h
      · rename_i e; subst e; cases h; exact hv
      · exact ih h
    · exact ih h
theorem look_keepSto {s : St} : ∀ {K : List Nat} {n : Nat} {b : Blk}, look (keepSto s K) n = some b → blk s n = some b := by
  intro K
  induction K with
  | nil => intro t d h; cases h
  | cons u K ih =>
    intro t d h
    simp only [keepSto] at h
    split at h
    · rename_i v hv
      simp only [look_cons] at h
      split at h
      · rename_i e; subst e; cases h; exact hv
      · exact ih h
    · exact ih h
theorem look_mem {α : Type} {l : List (Nat × α)} {n : Nat} {v : α} (h : look l n = some v) : (n, v) ∈ l := by
  induction l with
  | nil => cases h
  | cons p l ih =>
    obtain ⟨m, u⟩ := p
    simp only [look_cons] at h
    split at h
    · rename_i e; subst e; cases h; exact List.mem_cons_self
    · exact List.mem_cons_of_mem _ (ih h)
theorem blk_not_gone {s : St} {n : Nat} : blk s n ≠ some .gone := by
  unfold blk
  cases h : look s.sto n with
  | none => simp
  | some b => cases b <;> simp
theorem any_bnd {s : St} {S : List Nat} {E : List (Nat × DV)} {n : Nat} (h : ((keepSto s S).any fun y => Nat.beq y.1 n) = true) : Bnd ⟨E, keepSto s S⟩ n := by
  simp only [List.any_eq_true] at h
  obtain ⟨y, hy, e⟩ := h
  obtain rfl := Nat.eq_of_beq_eq_true e
  obtain ⟨b, hb⟩ := look_in (bl := keepSto s S) (n := y.1) (List.mem_map.2 ⟨y, hy, rfl⟩)
  have h2 := look_keepSto hb
  refine ⟨b, ?_⟩
  unfold blk
  simp only [hb]
  cases b with
  | gone => exact absurd h2 blk_not_gone
  | _ => rfl
theorem blk_keep {s : St} {S : List Nat} {E : List (Nat × DV)} {n : Nat} {b : Blk} (h : blk ⟨E, keepSto s S⟩ n = some b) : look (keepSto s S) n = some b ∧ blk s n = some b := by
  unfold blk at h
  cases hl : look (keepSto s S) n with
  | none => simp [hl] at h
  | some c =>
    have h2 := look_keepSto hl
    simp only [hl] at h
    cases c with
    | gone => exact absurd h2 blk_not_gone
    | _ => cases h; exact ⟨rfl, h2⟩

section
variable {ren : Nat → Option Nat} {A : Nat → Prop} {b0 : Nat} {w0 : World} {N : Nat} {φ : Nat → Option Value} {s : St} {a : Act} {w : World}
variable {P : Program} {Q : Exit → Act → World → Prop} {R : Nat → List DV → Option DV} {r : DV}

theorem RB.mono {G G' : Nat → Prop} {h : Value} {b : Blk} (k : RB w G φ ren h b) (hG : ∀ r, G r → G' r) : RB w G' φ ren h b := by
  cases b with
  | box cs =>
    obtain ⟨r, vs, rfl, h1, h2, h3⟩ := k
    have all : ∀ d, NamesOk (fun n => φ n = φ n) d ∨ True := fun _ => .inr trivial
    refine ⟨r, vs, rfl, ⟨h1.1, h1.2.1, fun j v d hj hd => (h1.2.2 j v d hj hd).mono hG (fun _ _ => rfl) (names_any d)⟩, h2, h3⟩
  | row τ l =>
    obtain ⟨ad, cap, rfl, h1, h2⟩ := k
    refine ⟨ad, cap, rfl, h1, h2.imp id ?_⟩
    rintro ⟨r, o, rfl, h3, h4⟩
    refine ⟨r, o, rfl, h3, fun i x hi => ?_⟩
    obtain ⟨vs, h5, h6⟩ := h4 i x hi
    exact ⟨vs, h5.mono hG (fun _ _ => rfl) (fun d hd => NamesOk.enc _ τ x d hd), h6⟩
  | arr τ l =>
    obtain ⟨r, rfl, h3, h4⟩ := k
    refine ⟨r, rfl, h3, fun i x hi => ?_⟩
    obtain ⟨vs, h5, h6⟩ := h4 i x hi
    exact ⟨vs, h5.mono hG (fun _ _ => rfl) (fun d hd => NamesOk.enc _ τ x d hd), h6⟩
  | map ag l =>
    obtain ⟨r, es, clock, e, h1, hst, h2, h3⟩ := k
    refine ⟨r, es, clock, e, h1, hst, h2, fun i e kc v he hl => ?_⟩
    obtain ⟨⟨us, h4, h4'⟩, h5, h6, h7⟩ := h3 i e kc v he hl
    exact ⟨⟨us, h4.mono hG (fun _ _ => rfl) (fun d _ => names_any d), h4'⟩, h5.mono hG (fun _ _ => rfl) (names_any v), h6, h7⟩
  | gone => exact k.elim

theorem keepK_sound (h : Rel ren A b0 w0 N φ s a w) {K S : List Nat} {k : St → Option DV} (hk : keepK K S s k = some r) : ∃ s', k s' = some r ∧ Rel ren A b0 w0 N φ s' a w := by
  unfold keepK at hk
  cases hc : St.closed ⟨keepEnv s K, keepSto s S⟩ with
  | false => rw [hc] at hk; cases hk
  | true =>
    rw [hc, cond_true] at hk
    refine ⟨_, hk, ?_⟩
    unfold St.closed at hc
    simp only [Bool.and_eq_true, List.all_eq_true] at hc
    obtain ⟨hc1, hc2⟩ := hc
    have hW : ∀ r, Wn ⟨keepEnv s K, keepSto s S⟩ φ r → Wn s φ r := fun r ⟨n, b, hh, h1, h2, h3⟩ => ⟨n, b, hh, (blk_keep h1).2, h2, h3⟩
    have hG : ∀ r, Gd A b0 s φ w r → Gd A b0 ⟨keepEnv s K, keepSto s S⟩ φ w r := fun r hr => ⟨hr.1, fun h => hr.2.1 (hW r h), hr.2.2⟩
    refine ⟨h.below, h.b0le, h.dn, h.sz, ?_, ?_, ?_, ?_, ?_⟩
    · exact fun t d hd => (h.env t d (look_keepEnv hd)).mono hG (fun _ _ => rfl) (names_any d)
    · exact fun t d hd => (all_ok (hc1 _ (look_mem hd))).imp fun n hn => any_bnd hn
    · intro n b hb
      obtain ⟨hh, h1, h2, h3⟩ := h.sto n b (blk_keep hb).2
      exact ⟨hh, h1, h2.mono hG, h3⟩
    · intro n cs hb d hd
      have := hc2 _ (look_mem (blk_keep hb).1)
      simp only [Blk.all, List.all_eq_true] at this
      exact (all1_ok (this d hd)).imp fun n hn => any_bnd hn
    · intro n m b c hh k r h1 h2
      exact h.inj n m b c hh k r (blk_keep h1).2 (blk_keep h2).2

theorem segs_sound (hF : Fine P ren R) {m : Nat} {ops : Array Oper} : ∀ (dc : DC) (i : Nat), segsOk P ren N ops (ops.toList.drop i) dc = true → i ≤ ops.size →
    ∀ {φ : Nat → Option Value} {s : St} {a : Act} {w : World} {k : Ex → St → Option DV} {Q : Exit → Act → World → Prop}, Rel ren A b0 w0 N φ s a w → runC R m dc s k = some r →
      (∀ φ' s' a' w', k .nrm s' = some r → Rel ren A b0 w0 N φ' s' a' w' → Q .normal a' w') → wpOps P ops Q (List.range' i (ops.size - i)) a w := by
  have get : ∀ (l : List DO) (i : Nat) (os : List Oper), (∀ (j : Nat) o, os[j]? = some o → ops.toList[i + j]? = some o) → dosOk P ren N ops os l = true →
      ∀ (j : Nat) d, l[j]? = some d → ∃ o, ops[i + j]? = some o ∧ doOk P ren N ops o d = true := by
    intro l i os ho hc j d hj
    obtain ⟨hl, hget⟩ := dosOk_get hc
    have hlt : j < os.length := by rw [hl]; exact (List.getElem?_eq_some_iff.1 hj).1
    exact ⟨os[j], by have := ho j _ (List.getElem?_eq_getElem hlt); simpa using this, hget j _ d (List.getElem?_eq_getElem hlt) hj⟩
  intro dc
  induction dc with
  | ops l =>
    intro i hc hi φ s a w k Q h hk hn
    simp only [segsOk] at hc
    have hl := (dosOk_get hc).1
    have := runOps_sound (Q := Q) (P := P) (ops := ops) hF l i (get l i _ (fun j o hj => by rw [List.getElem?_drop] at hj; exact hj) hc) h hk hn
    rw [← hl] at this
    simpa using this
  | opsc l K S x ihx =>
    intro i hc hi φ s a w k Q h hk hn
    simp only [segsOk, Bool.and_eq_true] at hc
    obtain ⟨hc1, hc2⟩ := hc
    have hl := (dosOk_get hc1).1
    rw [List.length_take, List.length_drop] at hl
    simp only [Array.length_toList] at hl
    have hle : i + l.length ≤ ops.size := by omega
    -- the first piece, with what follows as its end
    have key : ∀ (l : List DO) (i : Nat), (∀ (j : Nat) d, l[j]? = some d → ∃ o, ops[i + j]? = some o ∧ doOk P ren N ops o d = true) → ∀ (rest : List Nat) {φ : Nat → Option Value} {s : St} {a : Act} {w : World} {k' : St → Option DV}, Rel ren A b0 w0 N φ s a w → runOps R l s k' = some r →
        (∀ φ' s' a' w', k' s' = some r → Rel ren A b0 w0 N φ' s' a' w' → wpOps P ops Q rest a' w') → wpOps P ops Q (List.range' i l.length ++ rest) a w := by
      intro l
      induction l with
      | nil => intro i _ rest φ s a w k' h hk hn; exact hn φ s a w hk h
      | cons d l ih =>
        intro i hops rest φ s a w k' h hk hn
        simp only [List.length_cons, List.range'_succ, List.cons_append, wpOps_cons]
        obtain ⟨o, ho, hc⟩ := hops 0 d rfl
        simp only [runOps] at hk
        refine do_sound hF (by simpa using ho) hc h (k := fun s => runOps R l s k') hk fun φ' s' a' w' hk' hrel => ?_
        exact ih (i + 1) (fun j d' hj => by have := hops (j + 1) d' (by simpa using hj); simpa [Nat.add_assoc, Nat.add_comm 1 j] using this) rest hrel hk' hn
    have e : List.range' i (ops.size - i) = List.range' i l.length ++ List.range' (i + l.length) (ops.size - (i + l.length)) := by
      rw [List.range'_append_1]
      congr 1; omega
    rw [e]
    refine key l i (get l i _ (fun j o hj => ?_) hc1) _ h hk fun φ' s' a' w' hk' h' => ?_
    · have hlt := (List.getElem?_eq_some_iff.1 hj).1
      rw [List.length_take] at hlt
      rw [List.getElem?_take_of_lt (by omega), List.getElem?_drop] at hj
      exact hj
    · obtain ⟨s3, hk3, h3⟩ := keepK_sound h' hk'
      rw [List.drop_drop] at hc2
      exact ihx (i + l.length) hc2 hle h3 hk3 hn
  | _ => intro i hc; simp [segsOk] at hc

theorem runC_sound (hF : Fine P ren R) (hm : P.follows .mixedOrders = true) {m : Nat} : ∀ (dc : DC) (c : Code), chkC P ren N c dc = true →
    ∀ {φ : Nat → Option Value} {s : St} {a : Act} {w : World} {k : Ex → St → Option DV} {Q : Exit → Act → World → Prop}, Rel ren A b0 w0 N φ s a w → runC R m dc s k = some r →
      (∀ e φ' s' a' w', k e s' = some r → Rel ren A b0 w0 N φ' s' a' w' → Q (exOf e) a' w') → c.wp P Q a w := by
  intro dc
  induction dc with
  | skip =>
    intro c hc φ s a w k Q h hk hn
    cases c <;> first | (cases hc; done) | skip
    · exact wp_skip (hn .nrm φ s a w hk h)
    · rename_i id ops draw; cases draw <;> cases hc
    · exact wp_label (hn .nrm φ s a w hk h)
  | ret =>
    intro c hc φ s a w k Q h hk hn
    cases c <;> first | (cases hc; done) | skip
    · rename_i id ops draw; cases draw <;> cases hc
    · exact wp_ret (hn .ret φ s a w hk h)
  | exit j =>
    intro c hc φ s a w k Q h hk hn
    cases c <;> first | (cases hc; done) | skip
    · rename_i id ops draw; cases draw <;> cases hc
    · simp only [chkC] at hc
      obtain rfl := Nat.eq_of_beq_eq_true hc
      exact wp_exit (hn (.ex _) φ s a w hk h)
  | ops l =>
    intro c hc φ s a w k Q h hk hn
    cases c <;> first | (cases hc; done) | skip
    rename_i id ops draw
    cases draw <;> first | (cases hc; done) | skip
    exact region_sound hF hc h hk (fun φ' s' a' w' hk' h' => hn .nrm φ' s' a' w' hk' h')
  | draw l b =>
    intro c hc φ s a w k Q h hk hn
    cases c <;> first | (cases hc; done) | skip
    rename_i id ops draw
    cases draw <;> first | (cases hc; done) | skip
    simp only [chkC, Bool.and_eq_true] at hc
    exact draw_sound hF hm hc.1 hc.2.1 hc.2.2 h hk (fun φ' s' a' w' hk' h' => hn .nrm φ' s' a' w' hk' h')
  | seq x' y' ihx ihy =>
    intro c hc φ s a w k Q h hk hn
    cases c <;> first | (cases hc; done) | skip
    · rename_i id ops draw; cases draw <;> cases hc
    rename_i x y
    simp only [chkC, Bool.and_eq_true] at hc
    refine wp_seq (ihx x hc.1 h hk fun e φ' s' a' w' hk' h' => ?_)
    cases e with
    | nrm => exact ihy y hc.2 h' hk' hn
    | ex i => exact hn (.ex i) φ' s' a' w' hk' h'
    | ret => exact hn .ret φ' s' a' w' hk' h'
  | cond c' x' y' ihx ihy =>
    intro c hc φ s a w k Q h hk hn
    cases c <;> first | (cases hc; done) | skip
    · rename_i id ops draw; cases draw <;> cases hc
    rename_i c x y
    simp only [chkC, Bool.and_eq_true] at hc
    simp only [runC] at hk
    replace ⟨d, hk, h1⟩ := opd_sound h hc.1 hk
    split at hk
    · rename_i b
      have e := h1.rv.bool_inv
      refine wp_cond (t := b) e ?_
      cases b
      · exact ihy y hc.2.2 h hk hn
      · exact ihx x hc.2.1 h hk hn
    · cases hk
  | block j x' ihx =>
    intro c hc φ s a w k Q h hk hn
    cases c <;> first | (cases hc; done) | skip
    · rename_i id ops draw; cases draw <;> cases hc
    rename_i i x
    simp only [chkC, Bool.and_eq_true] at hc
    obtain ⟨hc1, hc⟩ := hc
    obtain rfl := Nat.eq_of_beq_eq_true hc1
    refine wp_block (ihx x hc h hk fun e φ' s' a' w' hk' h' => ?_)
    cases e with
    | nrm => exact hn .nrm φ' s' a' w' hk' h'
    | ex l =>
      simp only [exOf, Exit.inBlock]
      simp only [kBlock] at hk'
      cases hb : Nat.beq l i with
      | true =>
        obtain rfl := Nat.eq_of_beq_eq_true hb
        simp only [if_true]
        simp only [hb, cond_true] at hk'
        exact hn .nrm φ' s' a' w' hk' h'
      | false =>
        simp only [hb, cond_false] at hk'
        rw [if_neg (beq_false_ne hb)]
        exact hn (.ex l) φ' s' a' w' hk' h'
    | ret => exact hn .ret φ' s' a' w' hk' h'
  | loop K S x' ihx =>
    intro c hc φ s a w k Q h hk hn
    cases c <;> first | (cases hc; done) | skip
    · rename_i id ops draw; cases draw <;> cases hc
    rename_i x
    have hc' : chkC P ren N x x' = true := hc
    have key : ∀ (n : Nat) (φ : Nat → Option Value) (s : St) (a : Act) (w : World), Rel ren A b0 w0 N φ s a w → iter (runC R m x') K S n s k = some r → Code.rounds P x Q n a w := by
      intro n
      induction n with
      | zero => intro φ s a w _ hk; cases hk
      | succ n ih =>
        intro φ s a w h hk
        simp only [iter] at hk
        rw [rounds_succ]
        refine ihx x hc' h hk fun e φ' s'' a' w' hk' h'' => ?_
        cases e with
        | nrm =>
          have hk2 : keepK K S s'' (fun s => iter (runC R m x') K S n s k) = some r := hk'
          obtain ⟨s3, hk3, h3⟩ := keepK_sound h'' hk2
          exact ih φ' s3 a' w' h3 hk3
        | ex l => exact hn (.ex l) φ' s'' a' w' hk' h''
        | ret => exact hn .ret φ' s'' a' w' hk' h''
    have hk2 : keepK K S s (fun s => iter (runC R m x') K S m s k) = some r := hk
    obtain ⟨s3, hk3, h3⟩ := keepK_sound h hk2
    exact wp_loop_rounds m (key m φ s3 a w h3 hk3)
  | opsc l K S x' ihx =>
    intro c hc φ s a w k Q h hk hn
    cases c <;> first | (cases hc; done) | skip
    rename_i id ops draw
    cases draw <;> first | (cases hc; done) | skip
    have hc' : segsOk P ren N ops ops.toList (.opsc l K S x') = true := hc
    refine wp_region ?_
    have := segs_sound (Q := Q) hF (.opsc l K S x') 0 (by simpa using hc') (Nat.zero_le _) h hk (fun φ' s' a' w' hk' h' => hn .nrm φ' s' a' w' hk' h')
    simpa [List.range_eq_range'] using this
  | kp K S x' ihx =>
    intro c hc φ s a w k Q h hk hn
    have hc' : chkC P ren N c x' = true := by
      cases c <;> first | exact hc | (rename_i id ops draw; cases draw <;> exact hc)
    have hk2 : keepK K S s (fun s => runC R m x' s k) = some r := hk
    obtain ⟨s3, hk3, h3⟩ := keepK_sound h hk2
    exact ihx c hc' h3 hk3 hn
  | sc x' ihx =>
    intro c hc φ s a w k Q h hk hn
    cases c with
    | scope c' =>
      have hc' : chkC P ren N c' x' = true := hc
      have hk' : runC R m x' s k = some r := hk
      exact wp_scope_straight (ihx c' hc' (Q := Exit.noGoto Q) h hk' (fun ex φ' s' a' w' hk'' h'' => by cases ex <;> exact hn _ φ' s' a' w' hk'' h''))
    | region id ops draw => cases draw <;> cases hc
    | _ => cases hc
  | rset x d ts =>
    intro c hc φ s a w k Q h hk hn
    have hc' : rsetOk P N c x d ts = true := by
      cases c <;> first | exact hc | (rename_i id ops draw; cases draw <;> exact hc)
    have hk' : runSet s x d ts (fun s => k .nrm s) = some r := hk
    unfold runSet at hk'
    split at hk'
    · rename_i mm nn hx hd
      split at hk'
      · rename_i l bl hbm hbn
        split at hk'
        · rename_i ks hks
          cases hall : ks.all (fun i => decide (0 ≤ i) && decide (i.toNat < bl.length)) with
          | false => rw [hall] at hk'; cases hk'
          | true =>
            rw [hall, cond_true] at hk'
            exact rset_sound hc' h hx hbm hd hbn hks hall (fun a' w' hR => hn .nrm φ _ a' w' hk' hR)
        · cases hk'
      · cases hk'
    · cases hk'
end
end Bz
