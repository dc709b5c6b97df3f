/- What an operation looks at. -/
import Derived.Test.YtjlgkjmbndmkjabSound18
set_option linter.all false
set_option linter.unusedVariables false
namespace Bz
open Go Go.RowKit

/-- The operation has this effect wherever what it looks at is so. -/
def Fr (R : Nat → List DV → Option DV) (s : St) (op : DOp) (e : Eff) : Prop :=
  ∀ s' : St, (∀ t, Opd.t t ∈ op.args → look s.env t = look s'.env t) → (∀ n, n ∈ e.rd ∨ n ∈ e.bl.map (·.1) → blk s n = blk s' n) → ∀ k', eff R s' op k' = k' e

section
variable {s : St} {r : DV} {R : Nat → List DV → Option DV}
theorem opd_fr {x : Opd} {k : DV → Option DV} (hk : opd s x k = some r) : ∃ v, k v = some r ∧ ∀ s' : St, (∀ t, x = .t t → look s.env t = look s'.env t) → ∀ k', opd s' x k' = k' v := by
  cases x with
  | c v => exact ⟨v, hk, fun _ _ _ => rfl⟩
  | t n =>
    simp only [opd] at hk
    cases hl : look s.env n with
    | none => simp [hl] at hk
    | some v =>
      simp only [hl] at hk
      refine ⟨v, hk, fun s' h k' => ?_⟩
      simp only [opd, ← h n rfl, hl]
theorem opds_fr {xs : List Opd} {k : List DV → Option DV} (hk : opds s xs k = some r) : ∃ vs, k vs = some r ∧ ∀ s' : St, (∀ t, Opd.t t ∈ xs → look s.env t = look s'.env t) → ∀ k', opds s' xs k' = k' vs := by
  induction xs generalizing k with
  | nil => exact ⟨[], hk, fun _ _ _ => rfl⟩
  | cons x xs ih =>
    simp only [opds] at hk
    obtain ⟨v, hk, f1⟩ := opd_fr hk
    obtain ⟨vs, hk, f2⟩ := ih hk
    refine ⟨v :: vs, hk, fun s' h k' => ?_⟩
    simp only [opds]
    rw [f1 s' (fun t ht => h t (by simp [ht]))]
    rw [f2 s' (fun t ht => h t (by simp [ht]))]
theorem opdO_fr {x : Option Opd} {k : Option DV → Option DV} (hk : opdO s x k = some r) : ∃ v, k v = some r ∧ ∀ s' : St, (∀ t, x = some (.t t) → look s.env t = look s'.env t) → ∀ k', opdO s' x k' = k' v := by
  cases x with
  | none => exact ⟨none, hk, fun _ _ _ => rfl⟩
  | some x =>
    simp only [opdO] at hk
    obtain ⟨v, hk, f1⟩ := opd_fr hk
    refine ⟨some v, hk, fun s' h k' => ?_⟩
    simp only [opdO]
    rw [f1 s' (fun t ht => h t (by simp [ht]))]
theorem idx_fr {α : Type} {l : List α} {i : Int} {k : α → Option DV} (hk : idx l i k = some r) : ∃ x, k x = some r ∧ ∀ k', idx l i k' = k' x := by
  obtain ⟨x, h1, h2, h3, _⟩ := idx_get hk
  refine ⟨x, h2, fun k' => ?_⟩
  simp [idx, h3, h1]
theorem gd_fr {b : Bool} {k : Unit → Option DV} (hk : gd b k = some r) : k () = some r ∧ b = true := by
  cases b
  · cases hk
  · exact ⟨hk, rfl⟩
theorem cut_fr {α : Type} {r : α} {len : Nat} {lo hi : Option Int} {k : Nat → Nat → Option α} (hk : cut len lo hi k = some r) : ∃ l h, k l h = some r ∧ ∀ {β : Type} (k' : Nat → Nat → Option β), cut len lo hi k' = k' l h := by
  unfold cut at hk
  dsimp only at hk
  generalize hc : (decide (0 ≤ lowOf lo) && (decide (lowOf lo ≤ highOf len hi) && decide (highOf len hi ≤ (len : Int)))) = c at *
  have hc' : (decide (0 ≤ lowOf lo) && (decide (lowOf lo ≤ highOf len hi) && decide (highOf len hi ≤ (len : Int)))) = c := hc
  have e : ∀ {β : Type} (k' : Nat → Nat → Option β), cut len lo hi k' = bif c then k' (lowOf lo).toNat (highOf len hi).toNat else none := by
    intro β k'; rw [← hc']; rfl
  cases c with
  | false =>
    have := e k
    rw [show cut len lo hi k = some r from hk] at this; cases this
  | true =>
    have := e k
    rw [show cut len lo hi k = some r from hk] at this
    exact ⟨_, _, this.symm, fun k' => e k'⟩
theorem at_fr {a : DV} {k : List DV → List Nat → Option DV} (hk : at_ s a k = some r) : ∃ cs ns, k cs ns = some r ∧ ∀ s' : St, (∀ n ∈ ns, ∀ b, blk s n = some b → blk s' n = some b) → ∀ k', at_ s' a k' = k' cs ns := by
  unfold at_ at hk
  split at hk
  · exact ⟨_, _, hk, fun _ _ _ => rfl⟩
  · split at hk
    · rename_i n o _ cs hb
      refine ⟨_, _, hk, fun s' h k' => ?_⟩
      simp only [at_, h n (by simp) _ hb]
    · cases hk
  · rename_i n e i o
    split at hk
    · rename_i τ l hb
      cases he : Nat.beq e τ.esz with
      | false => simp [he] at hk
      | true =>
        simp only [he, cond_true] at hk
        obtain ⟨x, hk, f⟩ := idx_fr hk
        refine ⟨_, _, hk, fun s' h k' => ?_⟩
        simp only [at_, h n (by simp) _ hb, he, cond_true, f]
    · rename_i τ l hb
      cases he : Nat.beq e τ.esz with
      | false => simp [he] at hk
      | true =>
        simp only [he, cond_true] at hk
        obtain ⟨x, hk, f⟩ := idx_fr hk
        refine ⟨_, _, hk, fun s' h k' => ?_⟩
        simp only [at_, h n (by simp) _ hb, he, cond_true, f]
    · cases hk
  · cases hk
theorem vw0_fr {d d' : DV} {m : List Nat} (hv : vw0 s d = some (d', m)) (s' : St) (h : ∀ n ∈ m, blk s n = blk s' n) : vw0 s' d = some (d', m) := by
  cases d with
  | lsl n =>
    simp only [vw0] at hv ⊢
    split at hv
    · rename_i τ l hb
      cases hv
      simp only [← h n (by simp), hb]
    · cases hv
  | _ => exact hv
theorem vwl_fr {f g : DV → Option (DV × List Nat)} {ok : Nat → Prop} (hfg : ∀ d d' m, f d = some (d', m) → (∀ n ∈ m, ok n) → g d = some (d', m)) :
    ∀ {ds ds' : List DV} {m : List Nat}, vwl f ds = some (ds', m) → (∀ n ∈ m, ok n) → vwl g ds = some (ds', m) := by
  intro ds
  induction ds with
  | nil => intro ds' m h _; exact h
  | cons d ds ih =>
    intro ds' m h hm
    simp only [vwl] at h ⊢
    split at h
    · rename_i c' m1 e1
      split at h
      · rename_i r' m2 e2
        cases h
        simp only [hfg d c' m1 e1 (fun n hn => hm n (by simp [hn])), ih e2 (fun n hn => hm n (by simp [hn]))]
      · cases h
    · cases h
theorem vw1_other {d : DV} (h : ∀ n o, d ≠ .loc n o) (s : St) : vw1 s d = vw0 s d := by
  cases d <;> first | rfl | exact absurd rfl (h _ _)
theorem vw_other {d : DV} (h1 : ∀ cs, d ≠ .agg cs) (h2 : ∀ τ l, d ≠ .arr τ l) (h3 : ∀ f cs, d ≠ .fn f cs) (s : St) : vw s d = vw1 s d := by
  cases d <;> first | rfl | exact absurd rfl (h1 _) | exact absurd rfl (h2 _ _) | exact absurd rfl (h3 _ _)
theorem vw1_fr {d d' : DV} {m : List Nat} (hv : vw1 s d = some (d', m)) (s' : St) (h : ∀ n ∈ m, blk s n = blk s' n) : vw1 s' d = some (d', m) := by
  by_cases hl : ∃ n o, d = .loc n o
  · obtain ⟨n, o, rfl⟩ := hl
    simp only [vw1] at hv ⊢
    split at hv
    · rename_i cs hb
      split at hv
      · rename_i l m' e
        cases hv
        simp only [← h n (by simp), hb, vwl_fr (ok := fun n => blk s n = blk s' n) (fun d d' m h1 h2 => vw0_fr h1 s' h2) e (fun x hx => h x (by simp [hx]))]
      · cases hv
    · cases hv
  · have hne : ∀ n o, d ≠ .loc n o := fun n o e => hl ⟨n, o, e⟩
    rw [vw1_other hne] at hv ⊢
    exact vw0_fr hv s' h
theorem vw_fr {d d' : DV} {m : List Nat} (hv : vw s d = some (d', m)) (s' : St) (h : ∀ n ∈ m, blk s n = blk s' n) : vw s' d = some (d', m) := by
  have other : (∀ cs, d ≠ .agg cs) → (∀ τ l, d ≠ .arr τ l) → (∀ f cs, d ≠ .fn f cs) → vw s' d = some (d', m) := by
    intro n1 n2 n3
    rw [vw_other n1 n2 n3] at hv ⊢
    exact vw1_fr hv s' h
  cases d with
  | agg cs =>
    simp only [vw] at hv ⊢
    split at hv
    · rename_i l m' e
      cases hv
      simp only [vwl_fr (ok := fun n => blk s n = blk s' n) (fun d d' m h1 h2 => vw0_fr h1 s' h2) e h]
    · cases hv
  | arr τ l => exact hv
  | fn f cs =>
    simp only [vw] at hv ⊢
    split at hv
    · rename_i l m' e
      cases hv
      simp only [vwl_fr (ok := fun n => blk s n = blk s' n) (fun d d' m h1 h2 => vw1_fr h1 s' h2) e h]
    · cases hv
  | _ => exact other (by simp) (by simp) (by simp)
theorem callK_fr {f : Nat} {args : List DV} {sh : Sh} {k : sh.T → Option DV} (hk : callK R f args sh k = some r) : ∃ x, k x = some r ∧ ∀ k', callK R f args sh k' = k' x := by
  unfold callK at hk
  split at hk
  · cases hk
  rename_i r0 hr0
  split at hk
  · cases hk
  rename_i x hx
  exact ⟨x, hk, fun k' => by simp only [callK, hr0, hx]⟩
theorem free_fr {n : Nat} {k : Unit → Option DV} (hk : free s n k = some r) : k () = some r ∧ ∀ s' : St, blk s n = blk s' n → ∀ k' : Unit → Option DV, free s' n k' = k' () := by
  unfold free at hk
  split at hk
  · rename_i hb
    exact ⟨hk, fun s' h k' => by simp only [free, ← h, hb]⟩
  · cases hk
theorem anew_fr {n : Nat} {s' : St} (h : blk s n = blk s' n) : anew s' n = anew s n := by simp only [anew, h]
theorem appY_fr {τ : Ty} {x y : DV} {add : List (El τ) → List Nat → Option DV} (hk : appY s τ x y add = some r) :
    ∃ l rd, add l rd = some r ∧ ∀ s' : St, (∀ n ∈ rd, blk s n = blk s' n) → ∀ add', appY s' τ x y add' = add' l rd := by
  unfold appY at hk
  split at hk
  · split at hk
    · exact ⟨_, _, hk, fun s' h k' => by simp [appY, *]⟩
    · cases hk
  · exact ⟨_, _, hk, fun s' h k' => by simp [appY]⟩
  · split at hk
    · rename_i m _ σ l hb
      split at hk
      · rename_i l' hl
        cases hc : (match x with | .lsl n => !Nat.beq m n | _ => true) with
        | false =>
          cases x <;> first | (cases hc; done) | skip
          simp only at hc
          simp only [hc, cond_false] at hk
          cases hk
        | true =>
          refine ⟨l', [m], ?_, fun s' h k' => ?_⟩
          · cases x <;> first | exact hk | skip
            simp only at hc
            simp only [hc, cond_true] at hk
            exact hk
          · have hb' := (h m (by simp)).symm.trans hb
            cases x <;> first | (simp only [appY, hb', hl]; rfl) | skip
            simp only at hc
            simp only [appY, hb', hl, hc, cond_true]
      · cases hk
    · cases hk
  · split at hk
    · exact ⟨_, _, hk, fun s' h k' => by simp [appY, *]⟩
    · cases hk
  · cases hk
theorem appAdd_fr {nm : Nat} {τ : Ty} {x : DV} {k : Eff → Option DV} {l : List (El τ)} {rd : List Nat} (hk : appAdd s nm τ x k l rd = some r) :
    ∃ e, k e = some r ∧ (∀ n ∈ rd, n ∈ e.rd) ∧ ∀ s' : St, (∀ n, n ∈ e.rd ∨ n ∈ e.bl.map (·.1) → blk s n = blk s' n) → ∀ k', appAdd s' nm τ x k' l rd = k' e := by
  unfold appAdd at hk
  split at hk
  · replace ⟨hk, hg⟩ := gd_fr hk
    exact ⟨_, hk, fun n hn => hn, fun s' h k' => by simp only [appAdd, hg, gd, cond_true, anew_fr (h nm (.inr (by simp)))]⟩
  · rename_i n
    split at hk
    · rename_i σ l0 hb
      split at hk
      · rename_i l1 hl
        cases hc : Nat.beq nm n with
        | true =>
          rw [hc, cond_true] at hk
          replace ⟨hk, hg⟩ := gd_fr hk
          refine ⟨_, hk, fun m hm => List.mem_cons_of_mem _ hm, fun s' h k' => ?_⟩
          have hb' := (h n (.inl (by simp))).symm.trans hb
          simp only [appAdd, hb', hl, hc, cond_true, hg, gd]
        | false =>
          rw [hc, cond_false] at hk
          replace ⟨hk, hfr⟩ := free_fr hk
          replace ⟨hk, hg⟩ := gd_fr hk
          refine ⟨_, hk, fun m hm => List.mem_cons_of_mem _ hm, fun s' h k' => ?_⟩
          have hb' := (h n (.inl (by simp))).symm.trans hb
          simp only [appAdd, hb', hl, hc, cond_false]
          rw [hfr s' (h nm (.inr (by simp)))]
          simp only [hg, gd, cond_true]
      · cases hk
    · cases hk
  · cases hk

theorem eff_fr {op : DOp} {k : Eff → Option DV} (hk : eff R s op k = some r) : ∃ e, k e = some r ∧ Fr R s op e := by
  cases op with
  | mv x =>
    simp only [eff] at hk
    replace ⟨dx, hk, fx⟩ := opd_fr hk
    refine ⟨_, hk, fun s' h1 h2 k' => ?_⟩
    simp only [eff]
    rw [fx s' (fun t ht => h1 t (by simp [DOp.args, ht]))]
  | mkrow nm τ =>
    simp only [eff] at hk
    refine ⟨_, hk, fun s' h1 h2 k' => ?_⟩
    simp only [eff, anew_fr (h2 nm (.inr (by simp)))]
  | pick c a b =>
    simp only [eff] at hk
    replace ⟨dc, hk, fc⟩ := opd_fr hk
    replace ⟨da, hk, fa⟩ := opd_fr hk
    replace ⟨db, hk, fb⟩ := opd_fr hk
    split at hk
    · refine ⟨_, hk, fun s' h1 h2 k' => ?_⟩
      simp only [eff]
      rw [fc s' (fun t ht => h1 t (by simp [DOp.args, ht])), fa s' (fun t ht => h1 t (by simp [DOp.args, ht])), fb s' (fun t ht => h1 t (by simp [DOp.args, ht]))]
    · cases hk
  | alloc nm zero row =>
    cases row with
    | none =>
      simp only [eff] at hk
      replace ⟨hk, f1⟩ := free_fr hk
      refine ⟨_, hk, fun s' h1 h2 k' => ?_⟩
      simp only [eff]
      rw [f1 s' (h2 nm (.inr (by simp)))]
    | some nt =>
      obtain ⟨n, τ⟩ := nt
      simp only [eff] at hk
      replace ⟨hk, f1⟩ := free_fr hk
      replace ⟨hk, f2⟩ := free_fr hk
      cases hc : Nat.beq n nm with
      | true => rw [hc] at hk; cases hk
      | false =>
        rw [hc, cond_false] at hk
        refine ⟨_, hk, fun s' h1 h2 k' => ?_⟩
        simp only [eff]
        rw [f1 s' (h2 nm (.inr (by simp))), f2 s' (h2 n (.inr (by simp))), hc, cond_false]
  | alloca nm τ l =>
    simp only [eff] at hk
    replace ⟨hk, f1⟩ := free_fr hk
    refine ⟨_, hk, fun s' h1 h2 k' => ?_⟩
    simp only [eff]
    rw [f1 s' (h2 nm (.inr (by simp)))]
  | box nm x =>
    simp only [eff] at hk
    replace ⟨dx, hk, fx⟩ := opd_fr hk
    replace ⟨hk, f1⟩ := free_fr hk
    split at hk
    · refine ⟨_, hk, fun s' h1 h2 k' => ?_⟩
      simp only [eff]
      rw [fx s' (fun t ht => h1 t (by simp [DOp.args, ht])), f1 s' (h2 nm (.inr (by simp)))]
    · rename_i hna
      split at hk
      · rename_i cs hcs
        refine ⟨_, hk, fun s' h1 h2 k' => ?_⟩
        simp only [eff]
        rw [fx s' (fun t ht => h1 t (by simp [DOp.args, ht])), f1 s' (h2 nm (.inr (by simp)))]
        cases dx <;> first | exact absurd rfl (hna _ _) | simp only [hcs]
      · cases hk
  | build zero parts =>
    simp only [eff] at hk
    replace ⟨ds, hk, fx⟩ := opds_fr hk
    split at hk
    · rename_i cs hcs
      refine ⟨_, hk, fun s' h1 h2 k' => ?_⟩
      simp only [eff]
      rw [fx s' (fun t ht => h1 t (by simpa [DOp.args] using ht))]
      simp only [hcs]
    · cases hk
  | builda τ l parts =>
    simp only [eff] at hk
    replace ⟨ds, hk, fx⟩ := opds_fr hk
    split at hk
    · rename_i cs hcs
      refine ⟨_, hk, fun s' h1 h2 k' => ?_⟩
      simp only [eff]
      rw [fx s' (fun t ht => h1 t (by simpa [DOp.args] using ht))]
      simp only [hcs]
    · cases hk
  | bslice nm τ l parts =>
    simp only [eff] at hk
    replace ⟨ds, hk, fx⟩ := opds_fr hk
    split at hk
    · rename_i cs hcs
      cases nm with
      | none =>
        refine ⟨_, hk, fun s' h1 h2 k' => ?_⟩
        simp only [eff]
        rw [fx s' (fun t ht => h1 t (by simpa [DOp.args] using ht))]
        simp only [hcs]
      | some n =>
        refine ⟨_, hk, fun s' h1 h2 k' => ?_⟩
        simp only [eff]
        rw [fx s' (fun t ht => h1 t (by simpa [DOp.args] using ht))]
        simp only [hcs, anew_fr (h2 n (.inr (by simp)))]
    · cases hk
  | bslicef τ l parts =>
    simp only [eff] at hk
    replace ⟨ds, hk, fx⟩ := opds_fr hk
    split at hk
    · rename_i cs hcs
      refine ⟨_, hk, fun s' h1 h2 k' => ?_⟩
      simp only [eff]
      rw [fx s' (fun t ht => h1 t (by simpa [DOp.args] using ht))]
      simp only [hcs]
    · cases hk
  | appf τ x y =>
    simp only [eff] at hk
    replace ⟨dx, hk, fx⟩ := opd_fr hk
    replace ⟨dy, hk, fy⟩ := opd_fr hk
    split at hk
    · rename_i σ l0
      split at hk
      · rename_i l1 hl1
        replace ⟨l, rd, hk, fY⟩ := appY_fr hk
        replace ⟨hk, hg⟩ := gd_fr hk
        refine ⟨_, hk, fun s' h1 h2 k' => ?_⟩
        simp only [eff]
        rw [fx s' (fun t ht => h1 t (by simp [DOp.args, ht])), fy s' (fun t ht => h1 t (by simp [DOp.args, ht]))]
        simp only [hl1]
        rw [fY s' (fun n hn => h2 n (.inl hn))]
        simp only [hg, gd, cond_true]
      · cases hk
    · cases hk
  | load m x =>
    simp only [eff] at hk
    replace ⟨dx, hk, fx⟩ := opd_fr hk
    replace ⟨cs, ns, hk, fa⟩ := at_fr hk
    split at hk
    · split at hk
      · refine ⟨_, hk, fun s' h1 h2 k' => ?_⟩
        simp only [eff]
        rw [fx s' (fun t ht => h1 t (by simp [DOp.args, ht]))]
        rw [fa s' (fun n hn b hb => (h2 n (.inl hn)).symm.trans hb)]
      · cases hk
    · split at hk
      · rename_i ds hds
        refine ⟨_, hk, fun s' h1 h2 k' => ?_⟩
        simp only [eff]
        rw [fx s' (fun t ht => h1 t (by simp [DOp.args, ht]))]
        rw [fa s' (fun n hn b hb => (h2 n (.inl hn)).symm.trans hb)]
        simp only [hds]
      · cases hk
  | loada m x =>
    simp only [eff] at hk
    replace ⟨dx, hk, fx⟩ := opd_fr hk
    split at hk
    · rename_i n
      split at hk
      · rename_i τ l hb
        cases hc : Nat.beq (l.length * τ.esz) m with
        | false => rw [hc] at hk; cases hk
        | true =>
          rw [hc, cond_true] at hk
          refine ⟨_, hk, fun s' h1 h2 k' => ?_⟩
          simp only [eff]
          rw [fx s' (fun t ht => h1 t (by simp [DOp.args, ht]))]
          simp only [(h2 n (.inl (by simp))).symm.trans hb, hc, cond_true]
      · cases hk
    · cases hk
  | store m a x =>
    simp only [eff] at hk
    replace ⟨da, hk, fa⟩ := opd_fr hk
    replace ⟨dx, hk, fx⟩ := opd_fr hk
    split at hk
    · cases hk
    rename_i vs hvs
    cases hm : Nat.beq vs.length m with
    | false => rw [hm] at hk; cases hk
    | true =>
      rw [hm, cond_true] at hk
      split at hk
      · rename_i n o
        split at hk
        · rename_i cs hb
          split at hk
          · rename_i cs' hsp
            refine ⟨_, hk, fun s' h1 h2 k' => ?_⟩
            simp only [eff]
            rw [fa s' (fun t ht => h1 t (by simp [DOp.args, ht])), fx s' (fun t ht => h1 t (by simp [DOp.args, ht]))]
            simp only [hvs, hm, cond_true, (h2 n (.inl (by simp))).symm.trans hb, hsp]
          · cases hk
        · cases hk
      · rename_i n e i o
        split at hk
        · rename_i τ l hb
          cases he : Nat.beq e τ.esz with
          | false => rw [he] at hk; cases hk
          | true =>
            rw [he, cond_true] at hk
            replace ⟨y, hk, fi⟩ := idx_fr hk
            split at hk
            · rename_i cs' hsp
              split at hk
              · rename_i z hz
                refine ⟨_, hk, fun s' h1 h2 k' => ?_⟩
                simp only [eff]
                rw [fa s' (fun t ht => h1 t (by simp [DOp.args, ht])), fx s' (fun t ht => h1 t (by simp [DOp.args, ht]))]
                simp only [hvs, hm, cond_true, (h2 n (.inl (by simp))).symm.trans hb, he, fi, hsp, hz]
              · cases hk
            · cases hk
        · rename_i τ l hb
          cases he : Nat.beq e τ.esz with
          | false => rw [he] at hk; cases hk
          | true =>
            rw [he, cond_true] at hk
            replace ⟨y, hk, fi⟩ := idx_fr hk
            split at hk
            · rename_i cs' hsp
              split at hk
              · rename_i z hz
                refine ⟨_, hk, fun s' h1 h2 k' => ?_⟩
                simp only [eff]
                rw [fa s' (fun t ht => h1 t (by simp [DOp.args, ht])), fx s' (fun t ht => h1 t (by simp [DOp.args, ht]))]
                simp only [hvs, hm, cond_true, (h2 n (.inl (by simp))).symm.trans hb, he, fi, hsp, hz]
              · cases hk
            · cases hk
        · cases hk
      · cases hk
  | storea c a x =>
    simp only [eff] at hk
    replace ⟨da, hk, fa⟩ := opd_fr hk
    replace ⟨dx, hk, fx⟩ := opd_fr hk
    split at hk
    · rename_i n τ l
      split at hk
      · rename_i σ m hb
        split at hk
        · rename_i m' hm'
          cases hc : (Nat.beq m'.length l.length && Nat.beq (l.length * τ.esz) c) with
          | false => rw [hc] at hk; cases hk
          | true =>
            rw [hc, cond_true] at hk
            refine ⟨_, hk, fun s' h1 h2 k' => ?_⟩
            simp only [eff]
            rw [fa s' (fun t ht => h1 t (by simp [DOp.args, ht])), fx s' (fun t ht => h1 t (by simp [DOp.args, ht]))]
            simp only [(h2 n (.inl (by simp))).symm.trans hb, hm', hc, cond_true]
        · cases hk
      · cases hk
    · cases hk
  | bini op x y =>
    simp only [eff] at hk
    replace ⟨dx, hk, fx⟩ := opd_fr hk
    replace ⟨dy, hk, fy⟩ := opd_fr hk
    have fin : ∀ F : (Eff → Option DV) → Option DV, (∀ s' : St, (∀ t, Opd.t t ∈ (DOp.bini op x y).args → look s.env t = look s'.env t) → ∀ k', eff R s' (.bini op x y) k' = F k') → F k = some r →
        (∃ e, F k = k e ∧ ∀ k', F k' = k' e) → ∃ e, k e = some r ∧ Fr R s (.bini op x y) e := by
      rintro F hF hk ⟨e, h1, h2⟩
      exact ⟨e, h1 ▸ hk, fun s' g1 _ k' => (hF s' g1 k').trans (h2 k')⟩
    split at hk
    · rename_i a m b n
      have hF : ∀ s' : St, (∀ t, Opd.t t ∈ (DOp.bini op x y).args → look s.env t = look s'.env t) → ∀ k', eff R s' (.bini op x y) k' = _ := fun s' h1 k' => by
        simp only [eff]
        rw [fx s' (fun t ht => h1 t (by simp [DOp.args, ht])), fy s' (fun t ht => h1 t (by simp [DOp.args, ht]))]
      cases hc : kindEq a b with
      | false => rw [hc] at hk; cases hk
      | true =>
        rw [hc, cond_true] at hk
        simp only [hc, cond_true] at hF
        cases op <;> first
          | (refine ⟨_, hk, fun s' h1 h2 k' => hF s' h1 k'⟩; done)
          | (cases hk; done)
          | (replace ⟨hk, hg⟩ := gd_fr hk; refine ⟨_, hk, fun s' h1 h2 k' => (hF s' h1 k').trans ?_⟩; simp only [hg, gd, cond_true]; done)
          | (simp only at hk hF; split at hk <;> first | (cases hk; done) | (rename_i hr; refine ⟨_, hk, fun s' h1 h2 k' => (hF s' h1 k').trans ?_⟩; simp only [hr]; done))
    · cases hk
  | binf op x y =>
    simp only [eff] at hk
    replace ⟨dx, hk, fx⟩ := opd_fr hk
    replace ⟨dy, hk, fy⟩ := opd_fr hk
    split at hk
    · split at hk
      · rename_i hr
        refine ⟨_, hk, fun s' h1 h2 k' => ?_⟩
        simp only [eff]
        rw [fx s' (fun t ht => h1 t (by simp [DOp.args, ht])), fy s' (fun t ht => h1 t (by simp [DOp.args, ht]))]
        simp only [hr]
      · cases hk
    · cases hk
  | fdiv x y =>
    simp only [eff] at hk
    replace ⟨dx, hk, fx⟩ := opd_fr hk
    replace ⟨dy, hk, fy⟩ := opd_fr hk
    split at hk
    · refine ⟨_, hk, fun s' h1 h2 k' => ?_⟩
      simp only [eff]
      rw [fx s' (fun t ht => h1 t (by simp [DOp.args, ht])), fy s' (fun t ht => h1 t (by simp [DOp.args, ht]))]
    · cases hk
  | bins op x y =>
    simp only [eff] at hk
    replace ⟨dx, hk, fx⟩ := opd_fr hk
    replace ⟨dy, hk, fy⟩ := opd_fr hk
    split at hk
    · rename_i a b
      split at hk
      · replace ⟨hk, hg⟩ := gd_fr hk
        refine ⟨_, hk, fun s' h1 h2 k' => ?_⟩
        simp only [eff]
        rw [fx s' (fun t ht => h1 t (by simp [DOp.args, ht])), fy s' (fun t ht => h1 t (by simp [DOp.args, ht]))]
        simp only [hg, gd, cond_true]
      · refine ⟨_, hk, fun s' h1 h2 k' => ?_⟩
        simp only [eff]
        rw [fx s' (fun t ht => h1 t (by simp [DOp.args, ht])), fy s' (fun t ht => h1 t (by simp [DOp.args, ht]))]
      · refine ⟨_, hk, fun s' h1 h2 k' => ?_⟩
        simp only [eff]
        rw [fx s' (fun t ht => h1 t (by simp [DOp.args, ht])), fy s' (fun t ht => h1 t (by simp [DOp.args, ht]))]
      · cases hk
    · cases hk
  | eqb neg x y =>
    simp only [eff] at hk
    replace ⟨dx, hk, fx⟩ := opd_fr hk
    replace ⟨dy, hk, fy⟩ := opd_fr hk
    split at hk
    · refine ⟨_, hk, fun s' h1 h2 k' => ?_⟩
      simp only [eff]
      rw [fx s' (fun t ht => h1 t (by simp [DOp.args, ht])), fy s' (fun t ht => h1 t (by simp [DOp.args, ht]))]
    · cases hk
  | eqa neg p x y =>
    simp only [eff] at hk
    replace ⟨dx, hk, fx⟩ := opd_fr hk
    replace ⟨dy, hk, fy⟩ := opd_fr hk
    split at hk
    · split at hk
      · rename_i hr
        refine ⟨_, hk, fun s' h1 h2 k' => ?_⟩
        simp only [eff]
        rw [fx s' (fun t ht => h1 t (by simp [DOp.args, ht])), fy s' (fun t ht => h1 t (by simp [DOp.args, ht]))]
        simp only [hr]
      · cases hk
    · cases hk
  | not x =>
    simp only [eff] at hk
    replace ⟨dx, hk, fx⟩ := opd_fr hk
    split at hk
    · refine ⟨_, hk, fun s' h1 h2 k' => ?_⟩
      simp only [eff]
      rw [fx s' (fun t ht => h1 t (by simp [DOp.args, ht]))]
    · cases hk
  | neg x =>
    simp only [eff] at hk
    replace ⟨dx, hk, fx⟩ := opd_fr hk
    split at hk
    · refine ⟨_, hk, fun s' h1 h2 k' => ?_⟩
      simp only [eff]
      rw [fx s' (fun t ht => h1 t (by simp [DOp.args, ht]))]
    · cases hk
  | xor x =>
    simp only [eff] at hk
    replace ⟨dx, hk, fx⟩ := opd_fr hk
    split at hk
    · split at hk
      · rename_i hr
        refine ⟨_, hk, fun s' h1 h2 k' => ?_⟩
        simp only [eff]
        rw [fx s' (fun t ht => h1 t (by simp [DOp.args, ht]))]
        simp only [hr]
      · cases hk
    · cases hk
  | conv a x =>
    simp only [eff] at hk
    replace ⟨dx, hk, fx⟩ := opd_fr hk
    split at hk
    · refine ⟨_, hk, fun s' h1 h2 k' => ?_⟩
      simp only [eff]
      rw [fx s' (fun t ht => h1 t (by simp [DOp.args, ht]))]
    · cases hk
  | i2f x =>
    simp only [eff] at hk
    replace ⟨dx, hk, fx⟩ := opd_fr hk
    split at hk
    · refine ⟨_, hk, fun s' h1 h2 k' => ?_⟩
      simp only [eff]
      rw [fx s' (fun t ht => h1 t (by simp [DOp.args, ht]))]
    · cases hk
  | f2i a x =>
    simp only [eff] at hk
    replace ⟨dx, hk, fx⟩ := opd_fr hk
    split at hk
    · split at hk
      · rename_i hr
        replace ⟨hk, hg⟩ := gd_fr hk
        refine ⟨_, hk, fun s' h1 h2 k' => ?_⟩
        simp only [eff]
        rw [fx s' (fun t ht => h1 t (by simp [DOp.args, ht]))]
        simp only [hr, hg, gd, cond_true]
      · cases hk
    · cases hk
  | f2bits x =>
    simp only [eff] at hk
    replace ⟨dx, hk, fx⟩ := opd_fr hk
    split at hk
    · replace ⟨hk, hg⟩ := gd_fr hk
      refine ⟨_, hk, fun s' h1 h2 k' => ?_⟩
      simp only [eff]
      rw [fx s' (fun t ht => h1 t (by simp [DOp.args, ht]))]
      simp only [hg, gd, cond_true]
    · cases hk
  | bits2f x =>
    simp only [eff] at hk
    replace ⟨dx, hk, fx⟩ := opd_fr hk
    split at hk
    · refine ⟨_, hk, fun s' h1 h2 k' => ?_⟩
      simp only [eff]
      rw [fx s' (fun t ht => h1 t (by simp [DOp.args, ht]))]
    · cases hk
  | nck x =>
    simp only [eff] at hk
    replace ⟨dx, hk, fx⟩ := opd_fr hk
    split at hk <;> first
      | (cases hk; done)
      | (refine ⟨_, hk, fun s' h1 h2 k' => ?_⟩; simp only [eff]; rw [fx s' (fun t ht => h1 t (by simp [DOp.args, ht]))])
  | faddr off x =>
    simp only [eff] at hk
    replace ⟨dx, hk, fx⟩ := opd_fr hk
    split at hk <;> first
      | (cases hk; done)
      | (refine ⟨_, hk, fun s' h1 h2 k' => ?_⟩; simp only [eff]; rw [fx s' (fun t ht => h1 t (by simp [DOp.args, ht]))])
  | field off m x =>
    simp only [eff] at hk
    replace ⟨dx, hk, fx⟩ := opd_fr hk
    split at hk
    · rename_i cs
      cases m with
      | none =>
        simp only at hk
        split at hk
        · rename_i hd
          refine ⟨_, hk, fun s' h1 h2 k' => ?_⟩
          simp only [eff]
          rw [fx s' (fun t ht => h1 t (by simp [DOp.args, ht]))]
          simp only [hd]
        · cases hk
      | some m =>
        simp only at hk
        split at hk
        · rename_i hd
          refine ⟨_, hk, fun s' h1 h2 k' => ?_⟩
          simp only [eff]
          rw [fx s' (fun t ht => h1 t (by simp [DOp.args, ht]))]
          simp only [hd]
        · cases hk
    · cases hk
  | iaddr ar an es x i =>
    simp only [eff] at hk
    replace ⟨dx, hk, fx⟩ := opd_fr hk
    replace ⟨di, hk, fi⟩ := opd_fr hk
    split at hk
    · rename_i kk ii
      split at hk
      · rename_i τ l
        cases hc : (!ar && Nat.beq es τ.esz) with
        | false => rw [hc] at hk; cases hk
        | true =>
          rw [hc, cond_true] at hk
          replace ⟨y, hk, fy⟩ := idx_fr hk
          refine ⟨_, hk, fun s' h1 h2 k' => ?_⟩
          simp only [eff]
          rw [fx s' (fun t ht => h1 t (by simp [DOp.args, ht])), fi s' (fun t ht => h1 t (by simp [DOp.args, ht]))]
          simp only [hc, cond_true, fy]
      · rename_i n
        split at hk
        · rename_i τ l hb
          cases hc : (!ar && Nat.beq es τ.esz) with
          | false => rw [hc] at hk; cases hk
          | true =>
            rw [hc, cond_true] at hk
            replace ⟨y, hk, fy⟩ := idx_fr hk
            refine ⟨_, hk, fun s' h1 h2 k' => ?_⟩
            simp only [eff]
            rw [fx s' (fun t ht => h1 t (by simp [DOp.args, ht])), fi s' (fun t ht => h1 t (by simp [DOp.args, ht]))]
            simp only [(h2 n (.inl (by simp))).symm.trans hb, hc, cond_true, fy]
        · cases hk
      · rename_i n
        split at hk
        · rename_i τ l hb
          cases hc : (ar && (Nat.beq l.length an && Nat.beq es τ.esz)) with
          | false => rw [hc] at hk; cases hk
          | true =>
            rw [hc, cond_true] at hk
            replace ⟨y, hk, fy⟩ := idx_fr hk
            refine ⟨_, hk, fun s' h1 h2 k' => ?_⟩
            simp only [eff]
            rw [fx s' (fun t ht => h1 t (by simp [DOp.args, ht])), fi s' (fun t ht => h1 t (by simp [DOp.args, ht]))]
            simp only [(h2 n (.inl (by simp))).symm.trans hb, hc, cond_true, fy]
        · cases hk
      · cases hk
    · cases hk
  | idxs x i =>
    simp only [eff] at hk
    replace ⟨dx, hk, fx⟩ := opd_fr hk
    replace ⟨di, hk, fi⟩ := opd_fr hk
    split at hk
    · replace ⟨y, hk, fy⟩ := idx_fr hk
      refine ⟨_, hk, fun s' h1 h2 k' => ?_⟩
      simp only [eff]
      rw [fx s' (fun t ht => h1 t (by simp [DOp.args, ht])), fi s' (fun t ht => h1 t (by simp [DOp.args, ht]))]
      simp only [fy]
    · cases hk
  | idxa an x i =>
    simp only [eff] at hk
    replace ⟨dx, hk, fx⟩ := opd_fr hk
    replace ⟨di, hk, fi⟩ := opd_fr hk
    split at hk
    · rename_i τ l kk ii
      cases hc : Nat.beq l.length an with
      | false => rw [hc] at hk; cases hk
      | true =>
        rw [hc, cond_true] at hk
        replace ⟨y, hk, fy⟩ := idx_fr hk
        split at hk
        · rename_i hr
          refine ⟨_, hk, fun s' h1 h2 k' => ?_⟩
          simp only [eff]
          rw [fx s' (fun t ht => h1 t (by simp [DOp.args, ht])), fi s' (fun t ht => h1 t (by simp [DOp.args, ht]))]
          simp only [hc, cond_true, fy, hr]
        · cases hk
    · cases hk
  | sstr x lo hi =>
    simp only [eff] at hk
    replace ⟨dx, hk, fx⟩ := opd_fr hk
    replace ⟨dl, hk, fl⟩ := opdO_fr hk
    replace ⟨dh, hk, fh⟩ := opdO_fr hk
    split at hk
    · rename_i hl hh
      replace ⟨l, h, hk, fc⟩ := cut_fr hk
      refine ⟨_, hk, fun s' h1 h2 k' => ?_⟩
      simp only [eff]
      rw [fx s' (fun t ht => h1 t (by simp [DOp.args, ht])), fl s' (fun t ht => h1 t (by simp [DOp.args, ht])), fh s' (fun t ht => h1 t (by simp [DOp.args, ht]))]
      simp only [hl, hh, fc]
    · cases hk
  | ssl e x lo hi =>
    simp only [eff] at hk
    replace ⟨dx, hk, fx⟩ := opd_fr hk
    replace ⟨dl, hk, fl⟩ := opdO_fr hk
    replace ⟨dh, hk, fh⟩ := opdO_fr hk
    split at hk
    · rename_i τ b lo' hi' hl hh
      cases hc : Nat.beq e τ.esz with
      | false => rw [hc] at hk; cases hk
      | true =>
        rw [hc, cond_true] at hk
        replace ⟨l, h, hk, fc⟩ := cut_fr hk
        refine ⟨_, hk, fun s' h1 h2 k' => ?_⟩
        simp only [eff]
        rw [fx s' (fun t ht => h1 t (by simp [DOp.args, ht])), fl s' (fun t ht => h1 t (by simp [DOp.args, ht])), fh s' (fun t ht => h1 t (by simp [DOp.args, ht]))]
        simp only [hl, hh, hc, cond_true, fc]
    · cases hk
  | smv nm e x lo hi =>
    simp only [eff] at hk
    replace ⟨dx, hk, fx⟩ := opd_fr hk
    replace ⟨dl, hk, fl⟩ := opdO_fr hk
    replace ⟨dh, hk, fh⟩ := opdO_fr hk
    split at hk
    · rename_i n lo' hi' hl hh
      split at hk
      · rename_i τ b hb
        cases hc : (Nat.beq nm n && Nat.beq e τ.esz) with
        | false => rw [hc] at hk; cases hk
        | true =>
          rw [hc, cond_true] at hk
          replace ⟨l, h, hk, fc⟩ := cut_fr hk
          refine ⟨_, hk, fun s' h1 h2 k' => ?_⟩
          simp only [eff]
          rw [fx s' (fun t ht => h1 t (by simp [DOp.args, ht])), fl s' (fun t ht => h1 t (by simp [DOp.args, ht])), fh s' (fun t ht => h1 t (by simp [DOp.args, ht]))]
          simp only [hl, hh, (h2 n (.inl (by simp))).symm.trans hb, hc, cond_true, fc]
      · cases hk
    · cases hk
  | len st x =>
    simp only [eff] at hk
    replace ⟨dx, hk, fx⟩ := opd_fr hk
    split at hk
    · refine ⟨_, hk, fun s' h1 h2 k' => ?_⟩
      simp only [eff]
      rw [fx s' (fun t ht => h1 t (by simp [DOp.args, ht]))]
    · refine ⟨_, hk, fun s' h1 h2 k' => ?_⟩
      simp only [eff]
      rw [fx s' (fun t ht => h1 t (by simp [DOp.args, ht]))]
    · refine ⟨_, hk, fun s' h1 h2 k' => ?_⟩
      simp only [eff]
      rw [fx s' (fun t ht => h1 t (by simp [DOp.args, ht]))]
    · rename_i n
      split at hk
      · rename_i τ l hb
        refine ⟨_, hk, fun s' h1 h2 k' => ?_⟩
        simp only [eff]
        rw [fx s' (fun t ht => h1 t (by simp [DOp.args, ht]))]
        simp only [(h2 n (.inl (by simp))).symm.trans hb]
      · cases hk
    · cases hk
  | ext x i =>
    simp only [eff] at hk
    replace ⟨dx, hk, fx⟩ := opd_fr hk
    split at hk
    · split at hk
      · rename_i hr
        refine ⟨_, hk, fun s' h1 h2 k' => ?_⟩
        simp only [eff]
        rw [fx s' (fun t ht => h1 t (by simp [DOp.args, ht]))]
        simp only [hr]
      · cases hk
    · cases hk
  | call f args sh adopt =>
    simp only [eff] at hk
    replace ⟨ds, hk, fx⟩ := opds_fr hk
    split at hk
    · rename_i vs rd hvw
      cases hs : scOk rd sh with
      | false => rw [hs] at hk; cases hk
      | true =>
        rw [hs, cond_true] at hk
        replace ⟨x, hk, fc⟩ := callK_fr hk
        refine ⟨_, hk, fun s' h1 h2 k' => ?_⟩
        simp only [eff]
        rw [fx s' (fun t ht => h1 t (by simpa [DOp.args] using ht))]
        have hv : vwl (vw s') ds = some (vs, rd) := vwl_fr (ok := fun n => blk s n = blk s' n) (fun d d' m h1 h2 => vw_fr h1 s' h2) hvw (fun n hn => h2 n (.inl (by simp [hn])))
        simp only [hv, hs, cond_true, fc]
        have ha : adopt.flatMap (anew s') = adopt.flatMap (anew s) := by
          simp only [List.flatMap]
          congr 1
          exact List.map_congr_left fun n hn => anew_fr (h2 n (.inl (by simp [hn])))
        rw [ha]
    · cases hk
  | callv x args sh =>
    simp only [eff] at hk
    replace ⟨dx, hk, fx⟩ := opd_fr hk
    replace ⟨ds, hk, fs⟩ := opds_fr hk
    split at hk
    · rename_i f caps
      split at hk
      · rename_i vs rd hvw
        cases hs : scOk rd sh with
        | false => rw [hs] at hk; cases hk
        | true =>
          rw [hs, cond_true] at hk
          replace ⟨x, hk, fc⟩ := callK_fr hk
          refine ⟨_, hk, fun s' h1 h2 k' => ?_⟩
          simp only [eff]
          rw [fx s' (fun t ht => h1 t (by simp [DOp.args, ht])), fs s' (fun t ht => h1 t (by simp [DOp.args, ht]))]
          have hv : vwl (vw s') (ds ++ caps) = some (vs, rd) := vwl_fr (ok := fun n => blk s n = blk s' n) (fun d d' m h1 h2 => vw_fr h1 s' h2) hvw (fun n hn => h2 n (.inl hn))
          simp only [hv, hs, cond_true, fc]
      · cases hk
    · cases hk
  | append nm τ x y =>
    simp only [eff] at hk
    replace ⟨dx, hk, fx⟩ := opd_fr hk
    replace ⟨dy, hk, fy⟩ := opd_fr hk
    replace ⟨l, rd, hk, fY⟩ := appY_fr hk
    replace ⟨e, hk, hrd, fA⟩ := appAdd_fr hk
    refine ⟨e, hk, fun s' h1 h2 k' => ?_⟩
    simp only [eff]
    rw [fx s' (fun t ht => h1 t (by simp [DOp.args, ht])), fy s' (fun t ht => h1 t (by simp [DOp.args, ht])), fY s' (fun n hn => h2 n (.inl (hrd n hn))), fA s' h2]
  | copy e x y =>
    simp only [eff] at hk
    replace ⟨dx, hk, fx⟩ := opd_fr hk
    replace ⟨dy, hk, fy⟩ := opd_fr hk
    split at hk
    · rename_i n σ m
      split at hk
      · rename_i τ l hb
        split at hk
        · rename_i m' hm'
          cases hc : (Nat.beq m'.length l.length && Nat.beq e τ.esz) with
          | false => rw [hc] at hk; cases hk
          | true =>
            rw [hc, cond_true] at hk
            refine ⟨_, hk, fun s' h1 h2 k' => ?_⟩
            simp only [eff]
            rw [fx s' (fun t ht => h1 t (by simp [DOp.args, ht])), fy s' (fun t ht => h1 t (by simp [DOp.args, ht]))]
            simp only [(h2 n (.inl (by simp))).symm.trans hb, hm', hc, cond_true]
        · cases hk
      · cases hk
    · cases hk
  | mkslice nm τ z x =>
    simp only [eff] at hk
    replace ⟨dx, hk, fx⟩ := opd_fr hk
    split at hk
    · replace ⟨hk, hg⟩ := gd_fr hk
      refine ⟨_, hk, fun s' h1 h2 k' => ?_⟩
      simp only [eff]
      rw [fx s' (fun t ht => h1 t (by simp [DOp.args, ht]))]
      simp only [hg, gd, cond_true, anew_fr (h2 nm (.inr (by simp)))]
    · cases hk
  | mkfn f caps =>
    simp only [eff] at hk
    replace ⟨ds, hk, fx⟩ := opds_fr hk
    refine ⟨_, hk, fun s' h1 h2 k' => ?_⟩
    simp only [eff]
    rw [fx s' (fun t ht => h1 t (by simpa [DOp.args] using ht))]
  | mkmap nm ag y =>
    simp only [eff] at hk
    replace ⟨dy, hk, fy⟩ := opdO_fr hk
    split at hk
    · rename_i hi
      refine ⟨_, hk, fun s' h1 h2 k' => ?_⟩
      simp only [eff]
      rw [fy s' (fun t ht => h1 t (by simp [DOp.args, ht]))]
      simp only [hi, anew_fr (h2 nm (.inr (by simp)))]
    · cases hk
  | mget ok zero ag p x key =>
    simp only [eff] at hk
    replace ⟨dx, hk, fx⟩ := opd_fr hk
    replace ⟨dy, hk, fy⟩ := opd_fr hk
    split at hk
    · rename_i n
      split at hk
      · rename_i ag' l hb
        cases hag : (ag == ag') with
        | false => rw [hag] at hk; cases hk
        | true =>
        rw [hag, cond_true] at hk
        split at hk
        · rename_i cs hcs
          cases hl : Nat.beq cs.length p.length with
          | false => rw [hl] at hk; cases hk
          | true =>
          rw [hl, cond_true] at hk
          split at hk
          · rename_i q hq
            split at hk
            · split at hk
              · rename_i hx
                refine ⟨_, hk, fun s' h1 h2 k' => ?_⟩
                simp only [eff]
                rw [fx s' (fun t ht => h1 t (by simp [DOp.args, ht])), fy s' (fun t ht => h1 t (by simp [DOp.args, ht]))]
                simp only [(h2 n (.inl (by simp))).symm.trans hb, hag, hcs, hl, hq, hx, cond_true]
              · cases hk
            · split at hk
              · rename_i hx
                refine ⟨_, hk, fun s' h1 h2 k' => ?_⟩
                simp only [eff]
                rw [fx s' (fun t ht => h1 t (by simp [DOp.args, ht])), fy s' (fun t ht => h1 t (by simp [DOp.args, ht]))]
                simp only [(h2 n (.inl (by simp))).symm.trans hb, hag, hcs, hl, hq, hx, cond_true]
              · cases hk
            · cases hk
          · cases hk
        · cases hk
      · cases hk
    · cases hk
  | mput ag p x key v =>
    simp only [eff] at hk
    replace ⟨dx, hk, fx⟩ := opd_fr hk
    replace ⟨dy, hk, fy⟩ := opd_fr hk
    replace ⟨dz, hk, fz⟩ := opd_fr hk
    split at hk
    · rename_i n
      split at hk
      · rename_i ag' l hb
        cases hag : (ag == ag') with
        | false => rw [hag] at hk; cases hk
        | true =>
        rw [hag, cond_true] at hk
        split at hk
        · rename_i cs hcs
          cases hl : (Nat.beq cs.length p.length && (cs.all keyC && keyC dz)) with
          | false => rw [hl] at hk; cases hk
          | true =>
          rw [hl, cond_true] at hk
          split at hk
          · rename_i hq
            refine ⟨_, hk, fun s' h1 h2 k' => ?_⟩
            simp only [eff]
            rw [fx s' (fun t ht => h1 t (by simp [DOp.args, ht])), fy s' (fun t ht => h1 t (by simp [DOp.args, ht])), fz s' (fun t ht => h1 t (by simp [DOp.args, ht]))]
            simp only [(h2 n (.inl (by simp))).symm.trans hb, hag, hcs, hl, hq, cond_true]
          · cases hk
        · cases hk
      · cases hk
    · cases hk
end
end Bz
