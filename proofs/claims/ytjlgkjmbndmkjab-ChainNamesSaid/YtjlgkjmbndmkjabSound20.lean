/- Regions: in order, and in an order that is drawn. -/
import Derived.Test.YtjlgkjmbndmkjabSound19
import Derived.Test.YtjlgkjmbndmkjabDev2c
import Derived.Orders
set_option linter.all false
set_option linter.unusedVariables false
namespace Bz
open Go Go.RowKit

/-- the temporaries that an operation looks at -/
def DO.reads (d : DO) : List Nat :=
  (d.op.args.filterMap fun x => match x with | .t n => some n | .c _ => none) ++ (match d.g with | some (t, _) => [t] | none => [])
def guardOk (ops : Array Oper) (o : Oper) (d : DO) : Bool :=
  match o.guard, d.g with
  | none, none => true
  | some (j, want), some (t, w) => (match (ops[j]?).bind (·.dst) with | some t' => Nat.beq t' t | none => false) && want == w
  | _, _ => false
def dstOk (N : Nat) (o : Oper) (d : DO) : Bool :=
  match o.dst, d.dst with
  | none, none => true
  | some t, some t' => Nat.beq t t' && Nat.blt t N
  | _, _ => false
theorem dstOk_get {N : Nat} {o : Oper} {d : DO} (h : dstOk N o d = true) : o.dst = d.dst ∧ ∀ t, d.dst = some t → t < N := by
  unfold dstOk at h
  split at h
  · rename_i h1 h2; exact ⟨by rw [h1, h2], fun t ht => by rw [h2] at ht; cases ht⟩
  · rename_i t t' h1 h2
    simp only [Bool.and_eq_true] at h
    obtain rfl := Nat.eq_of_beq_eq_true h.1
    refine ⟨by rw [h1, h2], fun u hu => ?_⟩
    rw [h2] at hu; cases hu
    simpa [Nat.blt_eq] using h.2
  · cases h
def doOk (P : Program) (ren : Nat → Option Nat) (N : Nat) (ops : Array Oper) (o : Oper) (d : DO) : Bool := dstOk N o d && (guardOk ops o d && opOk P ren o d.op)
def dosOk (P : Program) (ren : Nat → Option Nat) (N : Nat) (ops : Array Oper) : List Oper → List DO → Bool
  | [], [] => true
  | o :: os, d :: ds => doOk P ren N ops o d && dosOk P ren N ops os ds
  | _, _ => false
theorem dosOk_get {P : Program} {ren : Nat → Option Nat} {N : Nat} {ops : Array Oper} : ∀ {os : List Oper} {ds : List DO}, dosOk P ren N ops os ds = true →
    os.length = ds.length ∧ ∀ (i : Nat) o d, os[i]? = some o → ds[i]? = some d → doOk P ren N ops o d = true := by
  intro os
  induction os with
  | nil => intro ds h; cases ds with
    | nil => exact ⟨rfl, by simp⟩
    | cons d ds => cases h
  | cons o os ih => intro ds h; cases ds with
    | nil => cases h
    | cons d ds =>
      simp only [dosOk, Bool.and_eq_true] at h
      have := ih h.2
      refine ⟨by simp [this.1], fun i o' d' hi hd => ?_⟩
      cases i with
      | zero => simp at hi hd; subst hi; subst hd; exact h.1
      | succ i => simp at hi hd; exact this.2 i o' d' hi hd

def All : Nat → Prop := fun _ => True
def app (d : DO) (x : Option Eff) (s : St) : St :=
  match x with
  | some e => (e.on s).put d.dst e.v
  | none => s.put d.dst .skp
def nms : Option Eff → List Nat
  | none => []
  | some e => e.rd ++ e.bl.map (·.1)
def wrs : Option Eff → List Nat
  | none => []
  | some e => e.bl.map (·.1)
def nopg : Option Eff → Bool
  | none => true
  | some e => e.pg.isEmpty
/-- Two states are alike at these temporaries and these names. -/
structure Ag (T M : Nat → Prop) (s s' : St) : Prop where
  env : ∀ t, T t → look s.env t = look s'.env t
  blk : ∀ n, M n → Bz.blk s n = Bz.blk s' n
theorem Ag.refl (T M : Nat → Prop) (s : St) : Ag T M s s := ⟨fun _ _ => rfl, fun _ _ => rfl⟩
theorem Ag.symm {T M : Nat → Prop} {s s' : St} (h : Ag T M s s') : Ag T M s' s := ⟨fun t ht => (h.env t ht).symm, fun n hn => (h.blk n hn).symm⟩
theorem Ag.trans {T M : Nat → Prop} {s s' s'' : St} (h : Ag T M s s') (k : Ag T M s' s'') : Ag T M s s'' := ⟨fun t ht => (h.env t ht).trans (k.env t ht), fun n hn => (h.blk n hn).trans (k.blk n hn)⟩
theorem Ag.imp {T M T' M' : Nat → Prop} {s s' : St} (h : Ag T M s s') (hT : ∀ t, T' t → T t) (hM : ∀ n, M' n → M n) : Ag T' M' s s' := ⟨fun t ht => h.env t (hT t ht), fun n hn => h.blk n (hM n hn)⟩
theorem Ag.put {T M : Nat → Prop} {s s' : St} (h : Ag T M s s') (dst : Option Nat) (v : DV) : Ag T M (s.put dst v) (s'.put dst v) := by
  refine ⟨fun t ht => ?_, fun n hn => by rw [blk_put, blk_put]; exact h.blk n hn⟩
  cases dst with
  | none => exact h.env t ht
  | some u => simp only [St.put, look_cons, h.env t ht]
theorem Ag.purge {T M : Nat → Prop} (l : List Nat) : ∀ {s s' : St}, Ag T M s s' → Ag T M (purge l s) (purge l s') := by
  induction l with
  | nil => intro s s' h; exact h
  | cons p l ih =>
    intro s s' h
    exact ih (s := purge1 p s) (s' := purge1 p s') ⟨fun t ht => by rw [purge1_env, purge1_env, h.env t ht], fun n hn => by rw [purge1_blk, purge1_blk, h.blk n hn]⟩
theorem blk_app (bl : List (Nat × Blk)) (s : St) (n : Nat) : blk { s with sto := bl ++ s.sto } n = match look bl n with
    | some .gone => none
    | some b => some b
    | none => blk s n := by
  unfold blk
  simp only [look_append]
  cases h : look bl n with
  | none => simp
  | some b => cases b <;> simp
theorem Ag.sto {T M : Nat → Prop} {s s' : St} (h : Ag T M s s') (bl : List (Nat × Blk)) : Ag T M { s with sto := bl ++ s.sto } { s' with sto := bl ++ s'.sto } :=
  ⟨h.env, fun n hn => by rw [blk_app, blk_app, h.blk n hn]⟩
theorem Ag.on {T M : Nat → Prop} {s s' : St} (h : Ag T M s s') (e : Eff) : Ag T M (e.on s) (e.on s') := by
  obtain ⟨v, bl, pg, rd⟩ := e
  cases pg with
  | nil => exact h.sto bl
  | cons p pg => exact (h.purge (p :: pg)).sto bl
theorem Ag.app {T M : Nat → Prop} {s s' : St} (h : Ag T M s s') (d : DO) (x : Option Eff) : Ag T M (app d x s) (app d x s') := by
  cases x with
  | none => exact h.put _ _
  | some e => exact (h.on e).put _ _
theorem look_notin {α : Type} {bl : List (Nat × α)} {n : Nat} (h : n ∉ bl.map (·.1)) : look bl n = none := by
  induction bl with
  | nil => rfl
  | cons p bl ih =>
    obtain ⟨m, b⟩ := p
    simp only [List.map_cons, List.mem_cons, not_or] at h
    simp only [look_cons, if_neg (Ne.symm h.1), ih h.2]
theorem look_in {α : Type} {bl : List (Nat × α)} {n : Nat} (h : n ∈ bl.map (·.1)) : ∃ b, look bl n = some b := by
  induction bl with
  | nil => cases h
  | cons p bl ih =>
    obtain ⟨m, b⟩ := p
    simp only [look_cons]
    by_cases e : m = n
    · exact ⟨b, by simp [e]⟩
    · simp only [if_neg e]
      exact ih (by simpa [Ne.symm e] using h)
theorem nopg_on {e : Eff} (h : e.pg.isEmpty = true) (s : St) : e.on s = { s with sto := e.bl ++ s.sto } := by
  obtain ⟨v, bl, pg, rd⟩ := e
  cases pg with
  | nil => rfl
  | cons p pg => cases h

theorem Ag.same {s s' : St} {t : Nat} {b : Bool} (h : look s.env t = some (.bool b)) : Ag All All s { s with env := (t, .bool b) :: s.env } := by
  refine ⟨fun u _ => ?_, fun n _ => rfl⟩
  simp only [look_cons]
  by_cases e : t = u
  · subst e; simp [h]
  · simp [e]
theorem Rel.ag {ren : Nat → Option Nat} {A : Nat → Prop} {b0 : Nat} {w0 : World} {N : Nat} {φ : Nat → Option Value} {s : St} {a : Act} {w : World} (h : Rel ren A b0 w0 N φ s a w) {s' : St} (k : Ag All All s s') : Rel ren A b0 w0 N φ s' a w := by
  have hb : blk s' = blk s := funext fun n => (k.blk n trivial).symm
  have he : ∀ t, look s'.env t = look s.env t := fun t => (k.env t trivial).symm
  have hB : ∀ n, Bnd s n → Bnd s' n := fun n ⟨b, h⟩ => ⟨b, by rw [hb]; exact h⟩
  have hW : Wn s' φ = Wn s φ := by unfold Wn; rw [hb]
  have hG : Gd A b0 s' φ w = Gd A b0 s φ w := by unfold Gd; rw [hW]
  refine ⟨h.below, h.b0le, h.dn, h.sz, ?_, ?_, ?_, ?_, ?_⟩
  · intro t d hd; rw [he] at hd; rw [hG]; exact h.env t d hd
  · intro t d hd; rw [he] at hd; exact (h.nm t d hd).imp hB
  · intro n b h1; rw [hb] at h1; rw [hG]; exact h.sto n b h1
  · intro n cs h1; rw [hb] at h1; exact fun d hd => (h.nmb n cs h1 d hd).imp hB
  · intro n m b c hh k r h1 h2; rw [hb] at h1 h2; exact h.inj n m b c hh k r h1 h2

section
variable {ren : Nat → Option Nat} {A : Nat → Prop} {b0 : Nat} {w0 : World} {N : Nat} {φ : Nat → Option Value} {s : St} {a : Act} {w : World}
variable {P : Program} {o : Oper} {nxt : Act → World → Prop} {Q : Exit → Act → World → Prop} {R : Nat → List DV → Option DV} {r : DV} {ops : Array Oper} {d : DO}

theorem getD_some {arr : Array Value} {t : Nat} {v : Value} (h : arr.getD t undef = v) (hv : v ≠ undef) : arr[t]? = some v := by
  rw [Array.getD_eq_getD_getElem?] at h
  cases hc : arr[t]? with
  | none => rw [hc] at h; exact absurd h.symm hv
  | some u => rw [hc] at h; exact congrArg some h

theorem wanted_sound (h : Rel ren A b0 w0 N φ s a w) (hg : guardOk ops o d = true) {y n : St → Option DV} (hk : wantK s d.g y n = some r) :
    ∃ s1, Ag All All s s1 ∧ ((Region.wanted o (yielded ops a.tmps) = true ∧ y s1 = some r) ∨ (Region.wanted o (yielded ops a.tmps) = false ∧ n s1 = some r)) := by
  unfold guardOk at hg
  split at hg
  · rename_i h1 h2
    rw [h2] at hk
    exact ⟨s, Ag.refl _ _ _, .inl ⟨by simp [Region.wanted, h1], hk⟩⟩
  · rename_i j want t w' h1 h2
    simp only [Bool.and_eq_true, beq_iff_eq] at hg
    obtain ⟨hg1, rfl⟩ := hg
    rw [h2] at hk
    split at hg1
    · rename_i t' ht'
      obtain rfl := Nat.eq_of_beq_eq_true hg1
      simp only [wantK] at hk
      have hy : ∀ u, a.tmps[t']? = some u → yielded ops a.tmps j = (match u with | .bool b => some b | _ => none) := by
        intro u hu
        unfold yielded
        rw [ht']
        simp only [Option.bind_some, hu]
        cases u <;> rfl
      split at hk
      · rename_i b hl
        have e1 := (h.env t' _ hl).bool_inv
        have e2 := hy _ (getD_some e1 (by simp [undef]))
        have e3 : yielded ops a.tmps j = some b := e2
        unfold Region.wanted
        rw [h1]
        simp only [e3]
        cases b <;> cases want <;> first | exact ⟨_, Ag.same (s' := s) hl, .inl ⟨rfl, hk⟩⟩ | exact ⟨_, Ag.same (s' := s) hl, .inr ⟨rfl, hk⟩⟩
      · rename_i hl
        have e1 := (h.env t' _ hl).skp_inv
        refine ⟨s, Ag.refl _ _ _, .inr ⟨?_, hk⟩⟩
        unfold Region.wanted
        rw [h1]
        have e3 : yielded ops a.tmps j = none := by
          cases hu : a.tmps[t']? with
          | none => unfold yielded; rw [ht']; simp [hu]
          | some u =>
            have e4 := hy u hu
            rw [Array.getD_eq_getD_getElem?, hu] at e1
            simp only [Option.getD_some] at e1
            subst e1
            exact e4
        simp [e3]
      · cases hk
    · cases hg1
  · cases hg

theorem do_sound (hF : Fine P ren R) {i : Nat} (hi : ops[i]? = some o) (hc : doOk P ren N ops o d = true) (h : Rel ren A b0 w0 N φ s a w) {k : St → Option DV}
    (hk : wantK s d.g (fun s => eff R s d.op fun e => k ((e.on s).put d.dst e.v)) (fun s => k (s.put d.dst .skp)) = some r)
    (hn : ∀ φ' s' a' w', k s' = some r → Rel ren A b0 w0 N φ' s' a' w' → nxt a' w') : wpOp P ops Q i nxt a w := by
  unfold doOk at hc
  simp only [Bool.and_eq_true] at hc
  obtain ⟨h1, h2, h3⟩ := hc
  obtain ⟨hd, hlt⟩ := dstOk_get h1
  unfold wpOp
  simp only [hi]
  obtain ⟨s1, hag, hor⟩ := wanted_sound h h2 hk
  replace h := h.ag hag
  rcases hor with ⟨hw, hk⟩ | ⟨hw, hk⟩
  · rw [if_pos hw]
    refine .inl (op_sound hF h3 h hk fun v w' e φ' hk' hrel hop => ?_)
    refine hn φ' _ _ _ hk' ?_
    rw [hd]
    exact hrel.put hlt hop.rv hop.nm
  · rw [hw]
    refine hn φ _ _ _ hk ?_
    rw [hd]
    exact h.put hlt .skp .skp

theorem runOps_sound (hF : Fine P ren R) : ∀ (l : List DO) (i : Nat), (∀ (j : Nat) d, l[j]? = some d → ∃ o, ops[i + j]? = some o ∧ doOk P ren N ops o d = true) →
    ∀ {φ : Nat → Option Value} {s : St} {a : Act} {w : World} {k : St → Option DV}, Rel ren A b0 w0 N φ s a w → runOps R l s k = some r →
      (∀ φ' s' a' w', k s' = some r → Rel ren A b0 w0 N φ' s' a' w' → Q .normal a' w') → wpOps P ops Q (List.range' i l.length) a w := by
  intro l
  induction l with
  | nil => intro i _ φ s a w k h hk hn; exact hn φ s a w hk h
  | cons d l ih =>
    intro i hops φ s a w k h hk hn
    simp only [List.length_cons, List.range'_succ, wpOps_cons]
    obtain ⟨o, ho, hc⟩ := hops 0 d rfl
    simp only [runOps] at hk
    refine do_sound hF (by simpa using ho) hc h (k := fun s => runOps R l s k) hk fun φ' s' a' w' hk' hrel => ?_
    exact ih (i + 1) (fun j d' hj => by have := hops (j + 1) d' (by simpa using hj); simpa [Nat.add_assoc, Nat.add_comm 1 j] using this) hrel hk' hn

theorem region_sound (hF : Fine P ren R) {id : Nat} {l : List DO} (hc : dosOk P ren N ops ops.toList l = true) {k : St → Option DV} (h : Rel ren A b0 w0 N φ s a w) (hk : runOps R l s k = some r)
    (hn : ∀ φ' s' a' w', k s' = some r → Rel ren A b0 w0 N φ' s' a' w' → Q .normal a' w') : (Code.region id ops false).wp P Q a w := by
  obtain ⟨hl, hget⟩ := dosOk_get hc
  refine wp_region ?_
  have := runOps_sound (Q := Q) (P := P) (ops := ops) hF l 0 (fun j d hj => by
    have hlt : j < ops.toList.length := by rw [hl]; exact (List.getElem?_eq_some_iff.1 hj).1
    refine ⟨ops.toList[j], by simpa using List.getElem?_eq_getElem hlt, hget j _ d (List.getElem?_eq_getElem hlt) hj⟩) h hk hn
  rw [← hl] at this
  simpa [List.range_eq_range'] using this
end

/-! ### An order that is drawn -/
def stp (R : Nat → List DV → Option DV) (s : St) (d : DO) (K : St → Option Eff → Option DV) : Option DV :=
  wantK s d.g (fun s => eff R s d.op fun e => K s (some e)) (fun s => K s none)
def Fr1 (R : Nat → List DV → Option DV) (s : St) (d : DO) (x : Option Eff) : Prop :=
  ∀ s' : St, (∀ t ∈ d.reads, look s.env t = look s'.env t) → (∀ n ∈ nms x, blk s n = blk s' n) → ∃ s1, Ag All All s' s1 ∧ ∀ K, stp R s' d K = K s1 x
theorem Fr1.ag {R : Nat → List DV → Option DV} {s s1 : St} {d : DO} {x : Option Eff} (h : Fr1 R s1 d x) (k : Ag All All s s1) : Fr1 R s d x :=
  fun s' h1 h2 => h s' (fun t ht => (k.env t trivial).symm.trans (h1 t ht)) (fun n hn => (k.blk n trivial).symm.trans (h2 n hn))

theorem mem_reads {d : DO} {t : Nat} (h : Opd.t t ∈ d.op.args) : t ∈ d.reads := by
  unfold DO.reads
  exact List.mem_append_left _ (List.mem_filterMap.2 ⟨.t t, h, rfl⟩)
theorem stp_fr {R : Nat → List DV → Option DV} {s : St} {d : DO} {K : St → Option Eff → Option DV} {r : DV} (hk : stp R s d K = some r) : ∃ s1 x, Ag All All s s1 ∧ K s1 x = some r ∧ Fr1 R s d x := by
  have run : ∀ s1 : St, Ag All All s s1 → (eff R s1 d.op fun e => K s1 (some e)) = some r →
      (∀ s' : St, (∀ t ∈ d.reads, look s.env t = look s'.env t) → ∃ s1', Ag All All s' s1' ∧ ∀ y n, wantK s' d.g y n = y s1') → ∃ s1 x, Ag All All s s1 ∧ K s1 x = some r ∧ Fr1 R s d x := by
    intro s1 hag hk hg
    obtain ⟨e, he, hf⟩ := eff_fr hk
    refine ⟨s1, some e, hag, he, fun s' h1 h2 => ?_⟩
    obtain ⟨s1', hag', hg'⟩ := hg s' h1
    refine ⟨s1', hag', fun K' => ?_⟩
    unfold stp
    rw [hg']
    exact hf s1' (fun t ht => ((hag.env t trivial).symm.trans (h1 t (mem_reads ht))).trans (hag'.env t trivial))
      (fun n hn => ((hag.blk n trivial).symm.trans (h2 n (by simp only [nms, List.mem_append]; exact hn))).trans (hag'.blk n trivial)) _
  have skip : ∀ s1 : St, Ag All All s s1 → K s1 none = some r →
      (∀ s' : St, (∀ t ∈ d.reads, look s.env t = look s'.env t) → ∃ s1', Ag All All s' s1' ∧ ∀ y n, wantK s' d.g y n = n s1') → ∃ s1 x, Ag All All s s1 ∧ K s1 x = some r ∧ Fr1 R s d x := by
    intro s1 hag hk hg
    refine ⟨s1, none, hag, hk, fun s' h1 h2 => ?_⟩
    obtain ⟨s1', hag', hg'⟩ := hg s' h1
    exact ⟨s1', hag', fun K' => by unfold stp; rw [hg']⟩
  unfold stp at hk
  cases hg : d.g with
  | none =>
    rw [hg] at hk
    exact run s (Ag.refl _ _ _) hk fun s' _ => ⟨s', Ag.refl _ _ _, fun y n => by rw [hg]; rfl⟩
  | some tw =>
    obtain ⟨t, w⟩ := tw
    have hm : t ∈ d.reads := by unfold DO.reads; rw [hg]; simp
    rw [hg] at hk
    simp only [wantK] at hk
    split at hk
    · rename_i b hl
      cases w <;> cases b
      · exact run _ (Ag.same (s' := s) hl) hk fun s' h => ⟨_, Ag.same (s' := s') ((h t hm).symm.trans hl), fun y n => by rw [hg]; simp only [wantK, ← h t hm, hl]; rfl⟩
      · exact skip _ (Ag.same (s' := s) hl) hk fun s' h => ⟨_, Ag.same (s' := s') ((h t hm).symm.trans hl), fun y n => by rw [hg]; simp only [wantK, ← h t hm, hl]; rfl⟩
      · exact skip _ (Ag.same (s' := s) hl) hk fun s' h => ⟨_, Ag.same (s' := s') ((h t hm).symm.trans hl), fun y n => by rw [hg]; simp only [wantK, ← h t hm, hl]; rfl⟩
      · exact run _ (Ag.same (s' := s) hl) hk fun s' h => ⟨_, Ag.same (s' := s') ((h t hm).symm.trans hl), fun y n => by rw [hg]; simp only [wantK, ← h t hm, hl]; rfl⟩
    · rename_i hl
      exact skip s (Ag.refl _ _ _) hk fun s' h => ⟨s', Ag.refl _ _ _, fun y n => by rw [hg]; simp only [wantK, ← h t hm, hl]⟩
    · cases hk

/-- One that touches nothing of these can be left out. -/
theorem Ag.skip {T M : Nat → Prop} (s : St) {d : DO} {x : Option Eff} (hp : nopg x = true) (hd : ∀ t, d.dst = some t → ¬ T t) (hw : ∀ n ∈ wrs x, ¬ M n) : Ag T M (Bz.app d x s) s := by
  have hput : ∀ (s : St) v, Ag T M (s.put d.dst v) s := by
    intro s v
    refine ⟨fun t ht => ?_, fun n hn => blk_put _ _ _⟩
    cases hdst : d.dst with
    | none => rfl
    | some u =>
      have : u ≠ t := fun e => hd u hdst (e ▸ ht)
      simp only [St.put, look_cons, if_neg this]
  cases x with
  | none => exact hput s _
  | some e =>
    refine (hput _ _).trans ?_
    rw [nopg_on hp]
    refine ⟨fun _ _ => rfl, fun n hn => ?_⟩
    rw [blk_app, look_notin fun h => hw n h hn]

/-- Two that touch nothing of one another, in either order. -/
theorem app_comm (s : St) {d d' : DO} {x x' : Option Eff} (hp : nopg x = true) (hp' : nopg x' = true) (hd : ∀ t, d.dst = some t → d'.dst ≠ some t) (hw : ∀ n ∈ wrs x, n ∉ wrs x') :
    Ag All All (app d x (app d' x' s)) (app d' x' (app d x s)) := by
  have env : ∀ (d : DO) (x : Option Eff), nopg x = true → ∃ v, ∀ (s : St) t, look (app d x s).env t = if d.dst = some t then some v else look s.env t := by
    intro d x hp
    cases x with
    | none =>
      refine ⟨.skp, fun s t => ?_⟩
      cases hdst : d.dst with
      | none => simp [app, hdst, St.put]
      | some u => simp only [app, hdst, St.put, look_cons, Option.some.injEq]
    | some e =>
      refine ⟨e.v, fun s t => ?_⟩
      simp only [app]
      rw [nopg_on hp]
      cases hdst : d.dst with
      | none => simp [St.put]
      | some u => simp only [St.put, look_cons, Option.some.injEq]
  have blks : ∀ (d : DO) (x : Option Eff), nopg x = true → ∃ f : Nat → Option Blk, ∀ (s : St) n, blk (app d x s) n = if n ∈ wrs x then f n else blk s n := by
    intro d x hp
    cases x with
    | none => exact ⟨fun _ => none, fun s n => by simp only [app, blk_put, wrs, List.not_mem_nil, if_false]⟩
    | some e =>
      refine ⟨fun n => match look e.bl n with | some .gone => none | some b => some b | none => none, fun s n => ?_⟩
      simp only [app, blk_put]
      rw [nopg_on hp, blk_app]
      by_cases hn : n ∈ wrs (some e)
      · obtain ⟨b, hb⟩ := look_in hn
        rw [if_pos hn, hb]
        cases b <;> rfl
      · rw [if_neg hn, look_notin hn]
  obtain ⟨v, hv⟩ := env d x hp
  obtain ⟨v', hv'⟩ := env d' x' hp'
  obtain ⟨f, hf⟩ := blks d x hp
  obtain ⟨f', hf'⟩ := blks d' x' hp'
  refine ⟨fun t _ => ?_, fun n _ => ?_⟩
  · simp only [hv, hv']
    by_cases h1 : d.dst = some t
    · simp [h1, hd t h1]
    · simp [h1]
  · simp only [hf, hf']
    by_cases h1 : n ∈ wrs x
    · simp [h1, hw n h1]
    · simp [h1]
end Bz
