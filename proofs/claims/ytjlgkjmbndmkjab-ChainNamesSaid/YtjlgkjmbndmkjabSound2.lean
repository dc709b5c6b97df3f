/- Reading elements back. -/
import Derived.Test.YtjlgkjmbndmkjabSound1
set_option linter.all false
set_option linter.unusedVariables false
namespace Bz
open Go

theorem Val.rd_eq {cs l : List DV} {v : Val} (h : Val.rd cs = some (v, l)) : cs = v.enc ++ l := by
  unfold Val.rd at h
  split at h
  · simp only [Option.some.injEq, Prod.mk.injEq] at h; obtain ⟨rfl, rfl⟩ := h; rfl
  · cases h
theorem Key.rd_eq {cs l : List DV} {v : Key} (h : Key.rd cs = some (v, l)) : cs = v.enc ++ l := by
  unfold Key.rd at h
  split at h
  · simp only [Option.some.injEq, Prod.mk.injEq] at h; obtain ⟨rfl, rfl⟩ := h; rfl
  · cases h
theorem Dsc.rd_eq {cs l : List DV} {v : Dsc} (h : Dsc.rd cs = some (v, l)) : cs = v.enc ++ l := by
  unfold Dsc.rd at h
  repeat' split at h
  all_goals (first | cases h | skip)
  rename_i v l1 q1 x1 g l0 q2 x0 st wr en co q3
  have e1 := Val.rd_eq q1; have e2 := Val.rd_eq q2; have e3 := Val.rd_eq q3
  subst e1; subst e2; subst e3
  simp [Dsc.enc]
theorem Prp.rd_eq {cs l : List DV} {v : Prp} (h : Prp.rd cs = some (v, l)) : cs = v.enc ++ l := by
  unfold Prp.rd at h
  repeat' split at h
  all_goals (first | cases h | skip)
  rename_i k l1 q1 x1 d q2
  have e1 := Key.rd_eq q1; have e2 := Dsc.rd_eq q2
  subst e1; subst e2
  simp [Prp.enc]

/-- One cell stands for another: a slice without room for an empty one. -/
def cle (c c' : DV) : Prop := c = c' ∨ (∃ τ, c = .nsl τ ∧ c' = .sl τ []) ∨ ∃ τ l, c = .own τ l ∧ c' = .sl τ l
theorem cle.refl (c : DV) : cle c c := .inl rfl
theorem rdProps_cle {c : DV} {l : List Prp} (h : rdProps c = some l) : cle c (.sl .prp l) := by
  unfold rdProps at h
  split at h
  · cases h; exact .inl rfl
  · cases h; exact .inr (.inr ⟨_, _, rfl, rfl⟩)
  · cases h; exact .inr (.inl ⟨_, rfl, rfl⟩)
  · cases h
theorem rdKeys_cle {c : DV} {l : List Key} (h : rdKeys c = some l) : cle c (.sl .key l) := by
  unfold rdKeys at h
  split at h
  · cases h; exact .inl rfl
  · cases h; exact .inr (.inr ⟨_, _, rfl, rfl⟩)
  · cases h; exact .inr (.inl ⟨_, rfl, rfl⟩)
  · cases h
/-- Lists of cells, cell by cell. -/
inductive Cle : List DV → List DV → Prop
  | nil : Cle [] []
  | cons {c d : DV} {cs ds : List DV} : cle c d → Cle cs ds → Cle (c :: cs) (d :: ds)
theorem Cle.refl : ∀ l : List DV, Cle l l
  | [] => .nil
  | c :: l => .cons (.inl rfl) (Cle.refl l)
theorem Cle.app : ∀ (p : List DV) {cs ds : List DV}, Cle cs ds → Cle (p ++ cs) (p ++ ds)
  | [], _, _, h => h
  | c :: p, _, _, h => .cons (.inl rfl) (Cle.app p h)
theorem Cle.app2 {a b c d : List DV} (h : Cle a b) (k : Cle c d) : Cle (a ++ c) (b ++ d) := by
  induction h with
  | nil => exact k
  | cons h1 h2 ih => exact .cons h1 ih

theorem Obj.rd_le {cs l : List DV} {v : Obj} (h : Obj.rd cs = some (v, l)) : Cle cs (v.enc ++ l) := by
  unfold Obj.rd at h
  repeat' split at h
  all_goals (first | cases h | skip)
  rename_i k l5 x4 p b ps l4 q1 x3 ps' q2 x2 t l2 q3 x1 hd s c m q4
  have e1 := Val.rd_eq q1; have e3 := Val.rd_eq q3; have e4 := Val.rd_eq q4
  subst e1; subst e3; subst e4
  simp only [Obj.enc, List.cons_append, List.nil_append]
  iterate 6 refine .cons (.inl rfl) ?_
  exact .cons (rdProps_cle q2) (Cle.refl _)
theorem Out.rd_le {cs l : List DV} {v : Out} (h : Out.rd cs = some (v, l)) : Cle cs (v.enc ++ l) := by
  unfold Out.rd at h
  repeat' split at h
  all_goals (first | cases h | skip)
  rename_i k l5 x4 v b f l4 q1 x3 d ks e s x2 ks' q3 q2
  have e1 := Val.rd_eq q1; have e2 := Dsc.rd_eq q2
  subst e1; subst e2
  simp only [Out.enc, List.cons_append, List.append_assoc, List.nil_append]
  iterate 7 refine .cons (.inl rfl) ?_
  exact Cle.app _ (.cons (rdKeys_cle q3) (Cle.refl _))
theorem Seen.rd_le {cs l : List DV} {v : Seen} (h : Seen.rd cs = some (v, l)) : Cle cs (v.enc ++ l) := by
  unfold Seen.rd at h
  repeat' split at h
  all_goals (first | cases h | skip)
  rename_i b o m l5 x4 k t l4 q1 x3 u q2
  have e1 := Key.rd_eq q1
  subst e1
  simp only [Seen.enc, List.cons_append, List.nil_append]
  iterate 6 refine .cons (.inl rfl) ?_
  exact Out.rd_le q2

theorem endOf_eq {α : Type} {o : Option (α × List DV)} {x : α} (h : endOf o = some x) : o = some (x, []) := by
  unfold endOf at h
  split at h
  · cases h; rfl
  · cases h

theorem dec_le (τ : Ty) {cs : List DV} {x : El τ} (h : dec τ cs = some x) : Cle cs (enc τ x) := by
  cases τ with
  | int => simp only [dec] at h; unfold decInt at h; split at h <;> first | (cases h; exact Cle.refl _) | cases h
  | byte =>
    simp only [dec] at h; unfold decByte at h
    split at h
    · rename_i n
      cases hc : (decide (0 ≤ n) && decide (n < 256)) with
      | false => simp [hc] at h
      | true =>
        simp only [hc, cond_true, Option.some.injEq] at h
        subst h
        simp only [Bool.and_eq_true, decide_eq_true_eq] at hc
        have : ((UInt8.ofNat n.toNat).toNat : Int) = n := by
          have : n.toNat < 256 := by omega
          simp [Nat.mod_eq_of_lt this]; omega
        simp only [enc]
        rw [this]; exact Cle.refl _
    · cases h
  | bool => simp only [dec] at h; unfold decBool at h; split at h <;> first | (cases h; exact Cle.refl _) | cases h
  | str => simp only [dec] at h; unfold decStr at h; split at h <;> first | (cases h; exact Cle.refl _) | cases h
  | val => have e := Val.rd_eq (endOf_eq h); simp only [List.append_nil] at e; subst e; exact Cle.refl _
  | key => have e := Key.rd_eq (endOf_eq h); simp only [List.append_nil] at e; subst e; exact Cle.refl _
  | prp => have e := Prp.rd_eq (endOf_eq h); simp only [List.append_nil] at e; subst e; exact Cle.refl _
  | obj => have e := Obj.rd_le (endOf_eq h); simp only [List.append_nil] at e; exact e
  | seen => have e := Seen.rd_le (endOf_eq h); simp only [List.append_nil] at e; exact e

section
variable {w : World} {G : Nat → Prop} {φ : Nat → Option Value} {ren : Nat → Option Nat}
theorem RV.cle {v : Value} {c c' : DV} (h : RV w G φ ren v c) (k : cle c c') : RV w G φ ren v c' := by
  rcases k with rfl | ⟨τ, rfl, rfl⟩ | ⟨τ, l, rfl, rfl⟩
  · exact h
  · cases h with
    | nsl τ ad => exact .sl (fun _ => []) rfl (Nat.le_refl _) (by simp) (by simp) (by simp) (by simp)
  · cases h
theorem RVs.cle {vs : List Value} {cs ds : List DV} (h : RVs w G φ ren vs cs) (k : Cle cs ds) : RVs w G φ ren vs ds := by
  induction k generalizing vs with
  | nil => exact h
  | cons h1 h2 ih => obtain ⟨v, vs', rfl, k1, k2, k3⟩ := h.uncons; exact .cons k1 (k2.cle h1) (ih k3)
/-- An element that was read back. -/
theorem RVs.dec {vs : List Value} {cs : List DV} (h : RVs w G φ ren vs cs) {τ : Ty} {x : El τ} (hd : Bz.dec τ cs = some x) : RVs w G φ ren vs (enc τ x) := h.cle (dec_le τ hd)
/-- The cells of an element do not lead to local blocks. -/
theorem RVs.pure {vs : List Value} {τ : Ty} {x : El τ} (h : RVs w G φ ren vs (enc τ x)) (φ' : Nat → Option Value) : RVs w G φ' ren vs (enc τ x) :=
  h.mono (fun _ h => h) (fun _ _ => rfl) fun d hd => NamesOk.enc _ τ x d hd
end
end Bz
