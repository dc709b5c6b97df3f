/- Effects on states; operands; constants. -/
import Derived.Test.YtjlgkjmbndmkjabSound3
set_option linter.all false
set_option linter.unusedVariables false
namespace Bz
open Go Go.RowKit

theorem look_map {α β : Type} (g : α → β) : ∀ (l : List (Nat × α)) (n : Nat), look (l.map fun x => (x.1, g x.2)) n = (look l n).map g
  | [], n => rfl
  | (m, v) :: r, n => by
    simp only [List.map_cons, look_cons, look_map g r n]
    split <;> rfl
theorem look_append {α : Type} : ∀ (l r : List (Nat × α)) (n : Nat), look (l ++ r) n = (look l n).or (look r n)
  | [], r, n => by simp [look]
  | (m, v) :: l, r, n => by
    simp only [List.cons_append, look_cons, look_append l r n]
    split <;> simp

theorem all0_ok {f : Nat → Bool} {d : DV} (h : d.all0 f = true) : NamesOk (fun n => f n = true) d := by
  cases d with
  | loc n o => exact .loc o h
  | lel n e i o => exact .lel e i o h
  | lsl n => exact .lsl h
  | agg cs => cases h
  | tup cs => cases h
  | imm cs => cases h
  | fn f cs => cases h
  | unk => exact .unk
  | skp => exact .skp
  | bool b => exact .bool b
  | int k n => exact .int k n
  | float b => exact .float b
  | str s => exact .str s
  | sl τ l => exact .sl τ l
  | own τ l => exact .own τ l
  | nsl τ => exact .nsl τ
  | fsl τ l => exact .fsl τ l
  | arr τ l => exact .arr τ l
theorem allI_ok {f : Nat → Bool} {d : DV} (h : d.allI f = true) : NamesOk (fun n => f n = true) d := by
  cases d with
  | imm cs => simp only [DV.allI, List.all_eq_true] at h; exact .imm fun d hd => all0_ok (h d hd)
  | _ => exact all0_ok h
theorem all1_ok {f : Nat → Bool} {d : DV} (h : d.all1 f = true) : NamesOk (fun n => f n = true) d := by
  cases d with
  | agg cs => simp only [DV.all1, List.all_eq_true] at h; exact .agg fun d hd => all0_ok (h d hd)
  | imm cs => simp only [DV.all1, List.all_eq_true] at h; exact .imm fun d hd => all0_ok (h d hd)
  | fn f cs => simp only [DV.all1, List.all_eq_true] at h; exact .fn f fun d hd => allI_ok (h d hd)
  | tup cs => cases h
  | _ => exact all0_ok h
theorem all_ok {f : Nat → Bool} {d : DV} (h : d.all f = true) : NamesOk (fun n => f n = true) d := by
  cases d with
  | tup cs => simp only [DV.all, List.all_eq_true] at h; exact .tup fun d hd => all1_ok (h d hd)
  | _ => exact all1_ok h
theorem men_ok {n : Nat} {d : DV} (h : d.men n = false) : NamesOk (fun m => m ≠ n) d := by
  have h' : d.all (fun m => !Nat.beq m n) = true := by simpa [DV.men] using h
  refine (all_ok h').imp fun m hm e => ?_
  subst e; simp at hm

/-- One name is taken away from a state. -/
theorem purge1_env (p : Nat) (s : St) (t : Nat) : look (purge1 p s).env t = (look s.env t).map fun v => bif v.men p then .unk else v :=
  look_map (fun v => bif DV.men p v then DV.unk else v) s.env t
def purgeB (p : Nat) : Blk → Blk
  | .box cs => .box (cs.map fun c => bif c.men p then .unk else c)
  | b => b
theorem purge1_sto (p : Nat) (s : St) (n : Nat) : look (purge1 p s).sto n = (look s.sto n).map (purgeB p) := by
  have : (purge1 p s).sto = s.sto.map fun x => (x.1, purgeB p x.2) := by
    simp only [purge1]
    apply List.map_congr_left
    rintro ⟨m, b⟩ _
    cases b <;> rfl
  rw [this, look_map]
theorem purge1_blk (p : Nat) (s : St) (n : Nat) : blk (purge1 p s) n = (blk s n).map (purgeB p) := by
  unfold blk
  rw [purge1_sto]
  cases h : look s.sto n with
  | none => rfl
  | some b => cases b <;> rfl

section
variable {ren : Nat → Option Nat} {A : Nat → Prop} {b0 : Nat} {w0 : World} {N : Nat} {φ : Nat → Option Value} {s : St} {a : Act} {w : World}

/-- The state behind an effect that binds one name. -/
theorem Rel.onBind (h : Rel ren A b0 w0 N φ s a w) {e : Eff} {nm : Nat} {b' : Blk} {k : Value} {w' : World}
    (hg : b' ≠ .gone) (hbl : (e.bl = [(nm, b')] ∧ (e.pg = [] ∨ e.pg = [nm])) ∨ ∃ p, p ≠ nm ∧ e.bl = [(nm, b'), (p, .gone)] ∧ e.pg = [p])
    (hbl' : True) (hnew : nm ∈ e.pg ∨ ¬ Bnd s nm)
    (ht : Turn w w' fun r => ∃ n b h, n ∈ e.pg ∧ blk s n = some b ∧ φ n = some h ∧ ownr h = some r)
    (ho : ∀ r, ownr k = some r → r < w'.heap.size ∧ (w.heap.size ≤ r ∨ ∃ n b h, n ∈ e.pg ∧ blk s n = some b ∧ φ n = some h ∧ ownr h = some r))
    (hR : (∀ r, Gd A b0 s φ w r → Gd A b0 (e.on s) (fun n => if n = nm then some k else φ n) w' r) → RB w' (Gd A b0 (e.on s) (fun n => if n = nm then some k else φ n) w') (fun n => if n = nm then some k else φ n) ren k b')
    (hnm : ∀ cs, b' = .box cs → ∀ d ∈ cs, NamesOk (fun n => n ≠ nm ∧ n ∉ e.pg ∧ Bnd s n) d) :
    Rel ren A b0 w0 N (fun n => if n = nm then some k else φ n) (e.on s) a w' ∧ (∀ r, Gd A b0 s φ w r → Gd A b0 (e.on s) (fun n => if n = nm then some k else φ n) w' r) ∧
      (∀ n, n ≠ nm → n ∉ e.pg → Bnd s n → Bnd (e.on s) n) ∧ Bnd (e.on s) nm := by
  obtain ⟨v, bl, pg, rd⟩ := e
  simp only at hbl hnew ht ho hR hnm
  -- what the lookups are
  have key : (∀ t d, look (Eff.on ⟨v, bl, pg, rd⟩ s).env t = some d → d = .unk ∨ (look s.env t = some d ∧ NamesOk (fun n => ¬ n ∈ pg) d)) ∧
      blk (Eff.on ⟨v, bl, pg, rd⟩ s) nm = some b' ∧ (∀ n, n ≠ nm → n ∈ pg → blk (Eff.on ⟨v, bl, pg, rd⟩ s) n = none) ∧
      (∀ n, n ≠ nm → n ∉ pg → (pg = [] ∧ blk (Eff.on ⟨v, bl, pg, rd⟩ s) n = blk s n) ∨ ∃ p, pg = [p] ∧ blk (Eff.on ⟨v, bl, pg, rd⟩ s) n = (blk s n).map (purgeB p)) := by
    have hb : ∀ (sto : List (Nat × Blk)) (env : List (Nat × DV)), blk ⟨env, (nm, b') :: sto⟩ nm = some b' := by
      intro sto env; unfold blk; simp only [look_cons, if_true]; cases b' <;> simp_all
    rcases hbl with ⟨rfl, rfl | rfl⟩ | ⟨p, hp, rfl, rfl⟩
    · refine ⟨fun t d hd => .inr ⟨hd, ?_⟩, hb _ _, by simp, fun n hn _ => .inl ⟨rfl, ?_⟩⟩
      · have : ∀ d, NamesOk (fun _ => True) d := by
          intro d
          have h2 : ∀ (m : Nat) (d : DV), sizeOf d ≤ m → NamesOk (fun _ => True) d := by
            intro m
            induction m with
            | zero => intro d hd; cases d <;> simp at hd
            | succ m ih =>
              intro d hd
              cases d with
              | agg cs => exact .agg fun c hc => ih c (by have := List.sizeOf_lt_of_mem hc; simp at hd; omega)
              | tup cs => exact .tup fun c hc => ih c (by have := List.sizeOf_lt_of_mem hc; simp at hd; omega)
              | imm cs => exact .imm fun c hc => ih c (by have := List.sizeOf_lt_of_mem hc; simp at hd; omega)
              | fn f cs => exact .fn f fun c hc => ih c (by have := List.sizeOf_lt_of_mem hc; simp at hd; omega)
              | unk => exact .unk
              | skp => exact .skp
              | bool b => exact .bool b
              | int k n => exact .int k n
              | float b => exact .float b
              | str s => exact .str s
              | sl τ l => exact .sl τ l
              | own τ l => exact .own τ l
              | nsl τ => exact .nsl τ
              | fsl τ l => exact .fsl τ l
              | arr τ l => exact .arr τ l
              | loc n o => exact .loc o trivial
              | lel n e i o => exact .lel e i o trivial
              | lsl n => exact .lsl trivial
          exact h2 _ d (Nat.le_refl _)
        exact (this d).imp fun n _ => by simp
      · show blk ⟨s.env, (nm, b') :: s.sto⟩ n = _
        unfold blk; simp only [look_cons, if_neg (Ne.symm hn)]
    · refine ⟨fun t d hd => ?_, hb _ _, fun n hn hnp => absurd (by simpa using hnp) hn, fun n hn _ => .inr ⟨nm, rfl, ?_⟩⟩
      · have hd' : look (purge1 nm s).env t = some d := hd
        rw [purge1_env] at hd'
        cases hl : look s.env t with
        | none => simp [hl] at hd'
        | some d0 =>
          simp only [hl, Option.map_some, Option.some.injEq] at hd'
          cases hm : d0.men nm with
          | true => simp [hm] at hd'; exact .inl hd'.symm
          | false => simp [hm] at hd'; subst hd'; exact .inr ⟨rfl, (men_ok hm).imp fun m hm' => by simpa using hm'⟩
      · show blk ⟨(purge1 nm s).env, (nm, b') :: (purge1 nm s).sto⟩ n = _
        rw [← purge1_blk]; unfold blk; simp only [look_cons, if_neg (Ne.symm hn)]
    · refine ⟨fun t d hd => ?_, hb _ _, ?_, fun n hn hnp => .inr ⟨p, rfl, ?_⟩⟩
      · have hd' : look (purge1 p s).env t = some d := hd
        rw [purge1_env] at hd'
        cases hl : look s.env t with
        | none => simp [hl] at hd'
        | some d0 =>
          simp only [hl, Option.map_some, Option.some.injEq] at hd'
          cases hm : d0.men p with
          | true => simp [hm] at hd'; exact .inl hd'.symm
          | false => simp [hm] at hd'; subst hd'; exact .inr ⟨rfl, (men_ok hm).imp fun m hm' => by simpa using hm'⟩
      · intro n hn hnp
        simp only [List.mem_singleton] at hnp; subst hnp
        show blk ⟨(purge1 n s).env, (nm, b') :: (n, .gone) :: (purge1 n s).sto⟩ n = none
        unfold blk; simp only [look_cons, if_neg (Ne.symm hn), if_true]
      · simp only [List.mem_singleton] at hnp
        show blk ⟨(purge1 p s).env, (nm, b') :: (p, .gone) :: (purge1 p s).sto⟩ n = _
        rw [← purge1_blk]; unfold blk; simp only [look_cons, if_neg (Ne.symm hn), if_neg (Ne.symm hnp)]
  obtain ⟨k1, k2, k3, k4⟩ := key
  have hb3 : ∀ n, n ≠ nm → ¬ n ∈ pg → Bnd s n → Bnd (Eff.on ⟨v, bl, pg, rd⟩ s) n := by
    rintro n hn hnp ⟨b, hb⟩
    rcases k4 n hn hnp with ⟨_, e⟩ | ⟨p, _, e⟩
    · exact ⟨b, e.trans hb⟩
    · exact ⟨_, by rw [e, hb]; rfl⟩
  have hfin := h.bind (s' := Eff.on ⟨v, bl, pg, rd⟩ s) (φ' := fun n => if n = nm then some k else φ n) (w' := w') (fun n => n ∈ pg) k2 (by simp) (fun n hn => by simp [hn]) hnew k1 k3
    (fun n hn hnp c hc => by
      rcases k4 n hn hnp with ⟨hpg, e⟩ | ⟨p, hpg, e⟩
      · rw [e] at hc
        refine ⟨c, hc, .inl ⟨rfl, fun cs hcs d hd => ?_⟩⟩
        subst hpg
        exact (h.nmb n cs (hcs ▸ hc) d hd).imp fun m _ => by simp
      · rw [e] at hc
        cases hb : blk s n with
        | none => simp [hb] at hc
        | some b =>
          simp only [hb, Option.map_some, Option.some.injEq] at hc
          subst hc
          refine ⟨b, rfl, ?_⟩
          cases b with
          | box cs =>
            refine .inr ⟨cs, _, rfl, rfl, by simp, fun j d hj => ?_⟩
            simp only [List.getElem?_map] at hj
            cases hcj : cs[j]? with
            | none => simp [hcj] at hj
            | some c0 =>
              simp only [hcj, Option.map_some, Option.some.injEq] at hj
              cases hm : c0.men p with
              | true => simp [hm] at hj; exact .inl hj.symm
              | false => simp [hm] at hj; subst hj; exact .inr ⟨rfl, (men_ok hm).imp fun m hm' => by subst hpg; simpa using hm'⟩
          | row τ l => exact .inl ⟨rfl, fun cs hcs => by cases hcs⟩
          | arr τ l => exact .inl ⟨rfl, fun cs hcs => by cases hcs⟩
          | map ag l => exact .inl ⟨rfl, fun cs hcs => by cases hcs⟩
          | gone => exact .inl ⟨rfl, fun cs hcs => by cases hcs⟩)
    hb3 ht ho hR (fun cs hcs d hd => (hnm cs hcs d hd).imp fun n hn => hb3 n hn.1 hn.2.1 hn.2.2)
  exact ⟨hfin.1, hfin.2, hb3, b', k2⟩
end
end Bz
