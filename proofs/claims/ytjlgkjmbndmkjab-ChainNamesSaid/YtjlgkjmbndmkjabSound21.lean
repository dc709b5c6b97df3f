/- An order that is drawn: the whole. -/
import Derived.Test.YtjlgkjmbndmkjabSound20
set_option linter.all false
set_option linter.unusedVariables false
namespace Bz
open Go Go.RowKit

theorem blt_lt {a b : Nat} : Nat.blt a b = true ↔ a < b := by rw [Nat.blt_eq]
/-- The state when those of L have run. -/
def sub (L : Nat → Bool) : Nat → List (DO × Option Eff) → St → St
  | _, [], s => s
  | i, p :: r, s => sub L (i + 1) r (bif L i then app p.1 p.2 s else s)

theorem sub_ag {T M : Nat → Prop} (L : Nat → Bool) : ∀ (ps : List (DO × Option Eff)) (i : Nat) {s s' : St}, Ag T M s s' → Ag T M (sub L i ps s) (sub L i ps s') := by
  intro ps
  induction ps with
  | nil => intro i s s' h; exact h
  | cons p ps ih =>
    intro i s s' h
    simp only [sub]
    cases L i
    · exact ih _ h
    · exact ih _ (h.app _ _)
/-- Two sets that differ at such alone as touch nothing of these. -/
theorem sub_differ {T M : Nat → Prop} (L K : Nat → Bool) : ∀ (ps : List (DO × Option Eff)) (i : Nat),
    (∀ j p, ps[j]? = some p → L (i + j) ≠ K (i + j) → nopg p.2 = true ∧ (∀ t, p.1.dst = some t → ¬ T t) ∧ ∀ n ∈ wrs p.2, ¬ M n) →
    ∀ {s s' : St}, Ag T M s s' → Ag T M (sub L i ps s) (sub K i ps s') := by
  intro ps
  induction ps with
  | nil => intro i _ s s' h; exact h
  | cons p ps ih =>
    intro i hd s s' h
    simp only [sub]
    refine ih (i + 1) (fun j q hj hne => hd (j + 1) q (by simpa using hj) (by simpa [Nat.add_assoc, Nat.add_comm 1 j] using hne)) ?_
    have h0 := hd 0 p rfl
    simp only [Nat.add_zero] at h0
    cases hL : L i <;> cases hK : K i
    · exact h
    · obtain ⟨h1, h2, h3⟩ := h0 (by simp [hL, hK])
      exact h.trans (Ag.skip s' h1 h2 h3).symm
    · obtain ⟨h1, h2, h3⟩ := h0 (by simp [hL, hK])
      exact (Ag.skip s h1 h2 h3).trans h
    · exact h.app _ _
/-- One that is apart from all behind it can run last. -/
theorem sub_past {q : DO × Option Eff} (hq : nopg q.2 = true) (L : Nat → Bool) : ∀ (ps : List (DO × Option Eff)) (i : Nat),
    (∀ j p, ps[j]? = some p → L (i + j) = true → nopg p.2 = true ∧ (∀ t, q.1.dst = some t → p.1.dst ≠ some t) ∧ ∀ n ∈ wrs q.2, n ∉ wrs p.2) →
    ∀ (s : St), Ag All All (app q.1 q.2 (sub L i ps s)) (sub L i ps (app q.1 q.2 s)) := by
  intro ps
  induction ps with
  | nil => intro i _ s; exact Ag.refl _ _ _
  | cons p ps ih =>
    intro i hd s
    simp only [sub]
    have ih' := ih (i + 1) (fun j p' hj hl => hd (j + 1) p' (by simpa using hj) (by simpa [Nat.add_assoc, Nat.add_comm 1 j] using hl))
    have h0 := hd 0 p rfl
    simp only [Nat.add_zero] at h0
    cases hL : L i with
    | false => exact ih' s
    | true =>
      obtain ⟨h1, h2, h3⟩ := h0 hL
      simp only [cond_true]
      exact (ih' _).trans (sub_ag L ps (i + 1) (app_comm s hq h1 h2 h3))
def with_ (L : Nat → Bool) (i : Nat) : Nat → Bool := fun j => bif Nat.beq j i then true else L j
theorem with_ne {L : Nat → Bool} {i j : Nat} (h : j ≠ i) : with_ L i j = L j := by
  unfold with_
  cases e : Nat.beq j i with
  | false => rfl
  | true => exact absurd (Nat.eq_of_beq_eq_true e) h
theorem with_eq (L : Nat → Bool) (i : Nat) : with_ L i i = true := by simp [with_]
theorem sub_congr {L K : Nat → Bool} : ∀ (ps : List (DO × Option Eff)) (i : Nat), (∀ j, j < ps.length → L (i + j) = K (i + j)) → ∀ s, sub L i ps s = sub K i ps s := by
  intro ps
  induction ps with
  | nil => intro i _ s; rfl
  | cons p ps ih =>
    intro i h s
    simp only [sub]
    rw [show L i = K i from by have := h 0 (by simp); simpa using this]
    exact ih (i + 1) (fun j hj => by have := h (j + 1) (by simpa using hj); simpa [Nat.add_assoc, Nat.add_comm 1 j] using this) _
theorem sub_add (L : Nat → Bool) {q : DO × Option Eff} (hq : nopg q.2 = true ∨ True) : ∀ (ps : List (DO × Option Eff)) (i k : Nat), ps[k]? = some q → L (i + k) = false →
    (∀ j p, ps[j]? = some p → k < j → L (i + j) = true → nopg q.2 = true ∧ nopg p.2 = true ∧ (∀ t, q.1.dst = some t → p.1.dst ≠ some t) ∧ ∀ n ∈ wrs q.2, n ∉ wrs p.2) →
    ∀ (s : St), Ag All All (app q.1 q.2 (sub L i ps s)) (sub (with_ L (i + k)) i ps s) := by
  intro ps
  induction ps with
  | nil => intro i k hk; cases hk
  | cons p ps ih =>
    intro i k hk hL hd s
    cases k with
    | zero =>
      simp only [List.getElem?_cons_zero, Option.some.injEq] at hk
      subst hk
      simp only [Nat.add_zero] at hL ⊢
      simp only [sub, hL, with_eq, cond_true, cond_false]
      have e : ∀ s, sub (with_ L i) (i + 1) ps s = sub L (i + 1) ps s := fun s => sub_congr ps (i + 1) (fun j _ => with_ne (by omega)) s
      rw [e]
      by_cases hex : ∃ j p', ps[j]? = some p' ∧ L (i + 1 + j) = true
      · obtain ⟨j, p', hj, hl⟩ := hex
        have hnp := (hd (j + 1) p' (by simpa using hj) (by omega) (by simpa [Nat.add_assoc, Nat.add_comm 1 j] using hl)).1
        exact sub_past hnp L ps (i + 1) (fun j p' hj hl => (hd (j + 1) p' (by simpa using hj) (by omega) (by simpa [Nat.add_assoc, Nat.add_comm 1 j] using hl)).2) s
      · have none : ∀ s, sub L (i + 1) ps s = s := by
          intro s
          have : ∀ s, sub L (i + 1) ps s = sub (fun _ => false) (i + 1) ps s := fun s => sub_congr ps (i + 1) (fun j hj => by
            cases hl : L (i + 1 + j) with
            | false => rfl
            | true => exact absurd ⟨j, ps[j], List.getElem?_eq_getElem hj, hl⟩ hex) s
          rw [this]
          clear this hd hex ih e hL
          generalize i + 1 = m
          induction ps generalizing m s with
          | nil => rfl
          | cons p ps ih => simp only [sub, cond_false]; exact ih _ _
        rw [none, none]
        exact Ag.refl _ _ _
    | succ k =>
      simp only [sub]
      rw [with_ne (by omega : i ≠ i + (k + 1))]
      have := ih (i + 1) k (by simpa using hk) (by simpa [Nat.add_assoc, Nat.add_comm 1 k] using hL)
        (fun j p' hj hlt hl => hd (j + 1) p' (by simpa using hj) (by omega) (by simpa [Nat.add_assoc, Nat.add_comm 1 j] using hl)) (bif L i then app p.1 p.2 s else s)
      rw [show i + (k + 1) = i + 1 + k from by omega]
      exact this

/-! ### What was run in the given order -/
def trOf (i : Nat) : Option Eff → Tr
  | none => ⟨i, [], [], false⟩
  | some e => ⟨i, e.bl.map (·.1), e.rd, !e.pg.isEmpty⟩
theorem runOpsD_get {R : Nat → List DV → Option DV} {r : DV} : ∀ (l : List DO) (i : Nat) (s : St) (acc : List Tr) (k : St → List Tr → Option DV), runOpsD R i l s acc k = some r →
    ∃ xs : List (Option Eff), xs.length = l.length ∧ (∃ tr sf, Ag All All (sub (fun _ => true) i (l.zip xs) s) sf ∧ k sf tr = some r ∧
      ∀ b, okAll b tr = true → okAll b acc = true ∧ (∀ j x, xs[j]? = some x → ∀ u ∈ acc, Tr.ok b u (trOf (i + j) x) = true) ∧
        ∀ j j' x x', j < j' → xs[j]? = some x → xs[j']? = some x' → Tr.ok b (trOf (i + j) x) (trOf (i + j') x') = true) ∧
      ∀ j d x, l[j]? = some d → xs[j]? = some x → Fr1 R (sub (fun m => Nat.blt m (i + j)) i (l.zip xs) s) d x := by
  intro l
  induction l with
  | nil =>
    intro i s acc k hk
    exact ⟨[], rfl, ⟨acc, s, Ag.refl _ _ _, hk, fun b hb => ⟨hb, by simp, by simp⟩⟩, by simp⟩
  | cons d l ih =>
    intro i s acc k hk
    have hk' : stp R s d (fun s x => runOpsD R (i + 1) l (app d x s) (trOf i x :: acc) k) = some r := hk
    obtain ⟨s1, x, hag, hx, hf⟩ := stp_fr hk'
    obtain ⟨xs, hl, ⟨tr, sf, h0, h1, h4⟩, h5⟩ := ih (i + 1) _ _ k hx
    refine ⟨x :: xs, by simp [hl], ⟨tr, sf, ?_, h1, fun b hb => ?_⟩, ?_⟩
    · simp only [List.zip_cons_cons, sub, cond_true]
      exact (sub_ag _ _ _ (hag.app d x)).trans h0
    · obtain ⟨g1, g2, g3⟩ := h4 b hb
      simp only [okAll, Bool.and_eq_true, List.all_eq_true] at g1
      refine ⟨g1.2, fun j y hj u hu => ?_, fun j j' y y' hlt hj hj' => ?_⟩
      · cases j with
        | zero => simp at hj; subst hj; exact g1.1 u hu
        | succ j =>
          simp at hj
          have := g2 j y hj u (List.mem_cons_of_mem _ hu)
          rwa [show i + 1 + j = i + (j + 1) from by omega] at this
      · cases j' with
        | zero => omega
        | succ j' =>
          simp at hj'
          cases j with
          | zero =>
            simp at hj; subst hj
            have := g2 j' y' hj' (trOf i x) List.mem_cons_self
            rwa [show i + 1 + j' = i + (j' + 1) from by omega] at this
          | succ j =>
            simp at hj
            have := g3 j j' y y' (by omega) hj hj'
            rwa [show i + 1 + j' = i + (j' + 1) from by omega, show i + 1 + j = i + (j + 1) from by omega] at this
    · intro j d' y hj hy
      cases j with
      | zero =>
        simp at hj hy; subst hj; subst hy
        have e : sub (fun m => Nat.blt m (i + 0)) i ((d :: l).zip (x :: xs)) s = s := by
          have : ∀ (ps : List (DO × Option Eff)) (m : Nat), i ≤ m → sub (fun m => Nat.blt m (i + 0)) m ps s = s := by
            intro ps
            induction ps with
            | nil => intro m _; rfl
            | cons p ps ih =>
              intro m hm
              have : Nat.blt m (i + 0) = false := by
                cases hb : Nat.blt m (i + 0) with
                | false => rfl
                | true => have := blt_lt.1 hb; omega
              simp only [sub, this, cond_false]
              exact ih (m + 1) (by omega)
          exact this _ i (Nat.le_refl _)
        rw [e]; exact hf
      | succ j =>
        simp at hj hy
        have := h5 j d' y hj hy
        have e : Nat.blt i (i + (j + 1)) = true := blt_lt.2 (by omega)
        simp only [List.zip_cons_cons, sub, e, cond_true]
        rw [show i + 1 + j = i + (j + 1) from by omega] at this
        exact this.ag (sub_ag _ _ _ (hag.app d x))

/-! ### The checks -/
def apart2 (x y : DO) : Bool :=
  (match x.dst with | some t => y.reads.all (fun u => !Nat.beq u t) && (match y.dst with | some u => !Nat.beq t u | none => true) | none => true) &&
  (match y.dst with | some t => x.reads.all (fun u => !Nat.beq u t) | none => true)
def inB (b : List (List Nat)) (i x : Nat) : Bool := (b.getD i []).any (Nat.beq x)
def pairsOk (b : List (List Nat)) : Nat → List DO → Bool
  | _, [] => true
  | i, d :: r => later b d i (i + 1) r && pairsOk b (i + 1) r
where later (b : List (List Nat)) (d : DO) (i : Nat) : Nat → List DO → Bool
  | _, [] => true
  | j, e :: r => (inB b j i || apart2 d e) && later b d i (j + 1) r
def edgesOk (b : List (List Nat)) : Nat → List Oper → Bool
  | _, [] => true
  | i, o :: r => (o.after.toList.all (fun e => !Region.binds .any e || Nat.blt e.on i)) &&
      ((b.getD i []).all (fun x => o.after.toList.any fun e => Region.binds .any e && (Nat.beq e.on x || inB b e.on x)) && edgesOk b (i + 1) r)

theorem later_get {b : List (List Nat)} {d : DO} {i : Nat} : ∀ {r : List DO} {j : Nat}, pairsOk.later b d i j r = true → ∀ (k : Nat) e, r[k]? = some e → inB b (j + k) i = true ∨ apart2 d e = true := by
  intro r
  induction r with
  | nil => intro j _ k e hk; cases hk
  | cons f r ih =>
    intro j h k e hk
    simp only [pairsOk.later, Bool.and_eq_true, Bool.or_eq_true] at h
    cases k with
    | zero => simp at hk; subst hk; exact h.1
    | succ k => simp at hk; have := ih h.2 k e hk; simpa [Nat.add_assoc, Nat.add_comm 1 k] using this
theorem pairsOk_get {b : List (List Nat)} : ∀ {l : List DO} {i : Nat}, pairsOk b i l = true → ∀ (j k : Nat) d e, j < k → l[j]? = some d → l[k]? = some e → inB b (i + k) (i + j) = true ∨ apart2 d e = true := by
  intro l
  induction l with
  | nil => intro i _ j k d e _ hj; cases hj
  | cons f l ih =>
    intro i h j k d e hlt hj hk
    simp only [pairsOk, Bool.and_eq_true] at h
    cases k with
    | zero => omega
    | succ k =>
      simp at hk
      cases j with
      | zero => simp at hj; subst hj; have := later_get h.1 k e hk; simpa [Nat.add_assoc, Nat.add_comm 1 k] using this
      | succ j => simp at hj; have := ih h.2 j k d e (by omega) hj hk; simpa [Nat.add_assoc, Nat.add_comm 1 k, Nat.add_comm 1 j] using this
theorem edgesOk_get {b : List (List Nat)} : ∀ {l : List Oper} {i : Nat}, edgesOk b i l = true → ∀ (j : Nat) o, l[j]? = some o →
    (∀ e ∈ o.after, Region.binds .any e = true → e.on < i + j) ∧ ∀ x, inB b (i + j) x = true → ∃ e ∈ o.after, Region.binds .any e = true ∧ (e.on = x ∨ inB b e.on x = true) := by
  intro l
  induction l with
  | nil => intro i _ j o hj; cases hj
  | cons f l ih =>
    intro i h j o hj
    simp only [edgesOk, Bool.and_eq_true] at h
    cases j with
    | zero =>
      simp at hj; subst hj
      obtain ⟨h1, h2, _⟩ := h
      simp only [List.all_eq_true, Bool.or_eq_true, Bool.not_eq_true'] at h1 h2
      refine ⟨fun e he hb => ?_, fun x hx => ?_⟩
      · rcases h1 e (by simpa using he) with h | h
        · rw [hb] at h; cases h
        · simpa using blt_lt.1 h
      · unfold inB at hx
        simp only [List.any_eq_true] at hx
        obtain ⟨y, hy, hxy⟩ := hx
        obtain rfl := Nat.eq_of_beq_eq_true hxy
        have := h2 x (by simpa using hy)
        simp only [List.any_eq_true, Bool.and_eq_true, Bool.or_eq_true] at this
        obtain ⟨e, he, hb, hor⟩ := this
        exact ⟨e, by simpa using he, hb, hor.imp (fun h => Nat.eq_of_beq_eq_true h) id⟩
    | succ j => simp at hj; have := ih h.2.2 j o hj; simpa [Nat.add_assoc, Nat.add_comm 1 j] using this

theorem apart2_get {x y : DO} (h : apart2 x y = true) : (∀ t, x.dst = some t → t ∉ y.reads ∧ y.dst ≠ some t) ∧ ∀ t, y.dst = some t → t ∉ x.reads := by
  unfold apart2 at h
  simp only [Bool.and_eq_true] at h
  refine ⟨fun t ht => ?_, fun t ht => ?_⟩
  · have h1 := h.1
    rw [ht] at h1
    simp only [Bool.and_eq_true, List.all_eq_true] at h1
    refine ⟨fun hm => by have := h1.1 t hm; simp at this, fun he => ?_⟩
    have h2 := h1.2
    rw [he] at h2
    simp at h2
  · have h1 := h.2
    rw [ht] at h1
    simp only [List.all_eq_true] at h1
    intro hm
    have := h1 t hm
    simp at this
theorem disj_get {a b : List Nat} (h : disj a b = true) : ∀ n ∈ a, n ∉ b := by
  unfold disj at h
  simp only [List.all_eq_true] at h
  intro n hn hb
  have := h n hn n hb
  simp at this
end Bz
