/- A region whose order is drawn, from the run in the given order. -/
import Derived.Test.YtjlgkjmbndmkjabSound21
set_option linter.all false
set_option linter.unusedVariables false
namespace Bz
open Go Go.RowKit

section
variable {ren : Nat → Option Nat} {A : Nat → Prop} {b0 : Nat} {w0 : World} {N : Nat} {φ : Nat → Option Value} {s : St} {a : Act} {w : World}
variable {P : Program} {Q : Exit → Act → World → Prop} {R : Nat → List DV → Option DV} {r : DV} {ops : Array Oper}

structure Ind (p q : DO × Option Eff) : Prop where
  p1 : nopg p.2 = true
  p2 : nopg q.2 = true
  d1 : ∀ t, p.1.dst = some t → t ∉ q.1.reads ∧ q.1.dst ≠ some t
  d2 : ∀ t, q.1.dst = some t → t ∉ p.1.reads
  w1 : ∀ n ∈ wrs p.2, n ∉ nms q.2
  w2 : ∀ n ∈ wrs q.2, n ∉ nms p.2
theorem wrs_nms {x : Option Eff} {n : Nat} (h : n ∈ wrs x) : n ∈ nms x := by
  cases x with
  | none => exact h
  | some e => exact List.mem_append_right _ h
theorem tr_wr (i : Nat) (x : Option Eff) : (trOf i x).wr = wrs x := by cases x <;> rfl
theorem tr_nms {i : Nat} {x : Option Eff} {n : Nat} (h : n ∈ nms x) : n ∈ (trOf i x).rd ++ (trOf i x).wr := by cases x <;> exact h
theorem tr_i (i : Nat) (x : Option Eff) : (trOf i x).i = i := by cases x <;> rfl
theorem tr_pg (i : Nat) (x : Option Eff) : (trOf i x).pg = !nopg x := by cases x <;> rfl

theorem ind_of {b : List (List Nat)} {i j : Nat} {p q : DO × Option Eff} (hb : inB b j i = false) (ht : Tr.ok b (trOf i p.2) (trOf j q.2) = true) (hp : inB b j i = true ∨ apart2 p.1 q.1 = true) : Ind p q := by
  have hap := hp.resolve_left (by simp [hb])
  obtain ⟨a1, a2⟩ := apart2_get hap
  unfold Tr.ok at ht
  rw [tr_i, tr_i] at ht
  have hb' : (b.getD j []).any (Nat.beq i) = false := hb
  rw [hb'] at ht
  simp only [Bool.false_or, Bool.and_eq_true, tr_pg, Bool.not_not] at ht
  obtain ⟨h1, h2, h3, h4⟩ := ht
  have g1 := disj_get h1
  have g2 := disj_get h2
  rw [tr_wr] at g1 g2
  refine ⟨h3, h4, a1, a2, fun n hn hm => g1 n hn (tr_nms hm), fun n hn hm => ?_⟩
  have := tr_nms (i := i) hm
  rw [List.mem_append] at this
  rcases this with h | h
  · exact g2 n hn h
  · rw [tr_wr] at h
    exact g1 n h (List.mem_append_right _ (by rw [tr_wr]; exact hn))

theorem getD_lt {arr : Array Bool} {i : Nat} (h : i < arr.size) (x y : Bool) : arr.getD i x = arr.getD i y := by
  simp [Array.getD_eq_getD_getElem?, h]
theorem getD_set {arr : Array Bool} {i : Nat} (h : i < arr.size) : (fun j => (arr.setIfInBounds i true).getD j false) = with_ (fun j => arr.getD j false) i := by
  funext j
  by_cases e : j = i
  · subst e; rw [with_eq]; simp [Array.getD_eq_getD_getElem?, h]
  · rw [with_ne e]
    simp only [Array.getD_eq_getD_getElem?]
    rw [Array.getElem?_setIfInBounds_ne (by omega)]

open Classical in
theorem draw_any (hF : Fine P ren R) {l : List DO} {b : List (List Nat)} (hc : dosOk P ren N ops ops.toList l = true) (hp : pairsOk b 0 l = true) (he : edgesOk b 0 ops.toList = true) {s : St} {xs : List (Option Eff)} (hxl : xs.length = l.length)
    (hfr : ∀ (j : Nat) d x, l[j]? = some d → xs[j]? = some x → Fr1 R (sub (fun m => Nat.blt m j) 0 (l.zip xs) s) d x)
    (hok : ∀ (j j' : Nat) x x', j < j' → xs[j]? = some x → xs[j']? = some x' → Tr.ok b (trOf j x) (trOf j' x') = true)
    (hQ : ∀ φ' a' w', Rel ren A b0 w0 N φ' (sub (fun _ => true) 0 (l.zip xs) s) a' w' → Q .normal a' w') :
    ∀ (fuel : Nat) (listed : Array Bool) (φ : Nat → Option Value) (a : Act) (w : World), listed.size = ops.size → ((List.range ops.size).filter fun i => !listed.getD i false).length ≤ fuel →
      (∀ j x, listed.getD j false = true → inB b j x = true → listed.getD x false = true) →
      Rel ren A b0 w0 N φ (sub (fun j => listed.getD j false) 0 (l.zip xs) s) a w → wpAny P .any ops Q fuel listed a w := by
  obtain ⟨hlen, hget⟩ := dosOk_get hc
  have hsz : ops.size = l.length := by simpa using hlen
  have hzl : (l.zip xs).length = ops.size := by simp [hxl, hsz]
  have hz : ∀ (j : Nat) p, (l.zip xs)[j]? = some p → l[j]? = some p.1 ∧ xs[j]? = some p.2 := by
    intro j p hj
    rw [List.getElem?_zip_eq_some] at hj
    exact hj
  have hind : ∀ (i j : Nat) p q, i < j → (l.zip xs)[i]? = some p → (l.zip xs)[j]? = some q → inB b j i = false → Ind p q := by
    intro i j p q hlt hi hj hb
    obtain ⟨p1, p2⟩ := hz i p hi
    obtain ⟨q1, q2⟩ := hz j q hj
    exact ind_of hb (hok i j _ _ hlt p2 q2) (by have := pairsOk_get hp i j _ _ hlt p1 q1; simpa using this)
  have hedge := fun (j : Nat) o (hj : ops.toList[j]? = some o) => by have := edgesOk_get he j o hj; simpa using this
  -- all are listed
  have fin : ∀ (listed : Array Bool) (φ : Nat → Option Value) (a : Act) (w : World), listed.size = ops.size → (∀ i, i < ops.size → listed.getD i false = true) →
      Rel ren A b0 w0 N φ (sub (fun j => listed.getD j false) 0 (l.zip xs) s) a w → Q .normal a w := by
    intro listed φ a w hls hall hrel
    refine hQ φ a w ?_
    rw [← sub_congr (L := fun j => listed.getD j false) (K := fun _ => true) (l.zip xs) 0 (fun j hj => by simpa using hall j (by rw [← hzl]; exact hj))]
    exact hrel
  have mem_ready : ∀ (listed : Array Bool) i, listed.size = ops.size → (i ∈ Region.ready .any ops listed ↔ i < ops.size ∧ listed.getD i false = false ∧ ∃ o, ops.toList[i]? = some o ∧ ∀ e ∈ o.after, Region.binds .any e = true → listed.getD e.on false = true) := by
    intro listed i hls
    unfold Region.ready
    simp only [List.mem_filter, List.mem_range, Bool.and_eq_true, Bool.not_eq_true']
    constructor
    · rintro ⟨h1, h2, h3⟩
      refine ⟨h1, by rw [getD_lt (by omega) false true]; exact h2, ops[i], by simp [h1], ?_⟩
      have e1 : ops[i]? = some ops[i] := Array.getElem?_eq_getElem h1
      rw [e1] at h3
      simp only [Option.map_some, Option.getD_some, Array.all_eq_true'] at h3
      intro e he' hb
      have := h3 e he'
      simpa [hb] using this
    · rintro ⟨h1, h2, o, h3, h4⟩
      refine ⟨h1, by rw [getD_lt (by omega) true false]; exact h2, ?_⟩
      have e1 : ops[i]? = some o := by simpa using h3
      rw [e1]
      simp only [Option.map_some, Option.getD_some, Array.all_eq_true']
      intro e he'
      cases hb : Region.binds .any e with
      | false => rfl
      | true => simp [h4 e he' hb]
  intro fuel
  induction fuel with
  | zero =>
    intro listed φ a w hls hcnt hcl hrel
    have hall : ∀ i, i < ops.size → listed.getD i false = true := by
      intro i hi
      cases hl : listed.getD i false with
      | true => rfl
      | false =>
        have : i ∈ (List.range ops.size).filter fun i => !listed.getD i false := List.mem_filter.2 ⟨List.mem_range.2 hi, by rw [hl]; rfl⟩
        have := List.length_pos_of_mem this
        omega
    refine ⟨?_, fin listed φ a w hls hall hrel⟩
    cases hr : Region.ready .any ops listed with
    | nil => rfl
    | cons i rest =>
      have := (mem_ready listed i hls).1 (by rw [hr]; simp)
      rw [hall i this.1] at this
      cases this.2.1
  | succ fuel ih =>
    intro listed φ a w hls hcnt hcl hrel
    refine ⟨fun hr => fin listed φ a w hls ?_ hrel, fun i hi => ?_⟩
    · intro i
      induction i using Nat.strongRecOn with
      | _ i ihi =>
        intro hi
        cases hl : listed.getD i false with
        | true => rfl
        | false =>
          exfalso
          have : i ∈ Region.ready .any ops listed := by
            refine (mem_ready listed i hls).2 ⟨hi, hl, ops[i], by simp [hi], fun e he' hb => ?_⟩
            have := (hedge i ops[i] (by simp [hi])).1 e he' hb
            exact ihi e.on this (by omega)
          rw [hr] at this; cases this
    · obtain ⟨hlt, hnl, o, ho, hdep⟩ := (mem_ready listed i hls).1 hi
      have hdeps : ∀ x, inB b i x = true → listed.getD x false = true := by
        intro x hx
        obtain ⟨e, he', hb, hor⟩ := (hedge i o ho).2 x hx
        rcases hor with rfl | hor
        · exact hdep e he' hb
        · exact hcl e.on x (hdep e he' hb) hor
      have hd : ∃ d, l[i]? = some d := ⟨l[i]'(by omega), List.getElem?_eq_getElem _⟩
      obtain ⟨d, hd⟩ := hd
      have hx : ∃ x, xs[i]? = some x := ⟨xs[i]'(by omega), List.getElem?_eq_getElem _⟩
      obtain ⟨x, hx⟩ := hx
      have hpi : (l.zip xs)[i]? = some (d, x) := by rw [List.getElem?_zip_eq_some]; exact ⟨hd, hx⟩
      have hag : Ag (fun t => t ∈ d.reads) (fun n => n ∈ nms x) (sub (fun m => Nat.blt m i) 0 (l.zip xs) s) (sub (fun j => listed.getD j false) 0 (l.zip xs) s) := by
        refine sub_differ _ _ (l.zip xs) 0 (fun j p hj hne => ?_) (Ag.refl _ _ _)
        simp only [Nat.zero_add] at hne
        by_cases hji : j < i
        · have hbl : Nat.blt j i = true := blt_lt.2 hji
          rw [hbl] at hne
          have hnj : listed.getD j false = false := by cases h : listed.getD j false with
            | false => rfl
            | true => rw [h] at hne; exact absurd rfl hne
          have hI := hind j i p (d, x) hji hj hpi (by
            cases h : inB b i j with
            | false => rfl
            | true => rw [hdeps j h] at hnj; cases hnj)
          exact ⟨hI.p1, fun t ht => (hI.d1 t ht).1, hI.w1⟩
        · have hbl : Nat.blt j i = false := by
            cases h : Nat.blt j i with
            | false => rfl
            | true => exact absurd (blt_lt.1 h) hji
          rw [hbl] at hne
          have hlj : listed.getD j false = true := by cases h : listed.getD j false with
            | true => rfl
            | false => rw [h] at hne; exact absurd rfl hne
          have hne' : j ≠ i := by rintro rfl; rw [hnl] at hlj; cases hlj
          have hI := hind i j (d, x) p (by omega) hpi hj (by
            cases h : inB b j i with
            | false => rfl
            | true => rw [hcl j i hlj h] at hnl; cases hnl)
          exact ⟨hI.p2, hI.d2, hI.w2⟩
      obtain ⟨s1, hag1, hfr'⟩ := hfr i d x hd hx (sub (fun j => listed.getD j false) 0 (l.zip xs) s) hag.env hag.blk
      let k' : St → Option DV := fun s' => if s' = app d x s1 then some .unk else none
      have hk' : stp R (sub (fun j => listed.getD j false) 0 (l.zip xs) s) d (fun s y => k' (app d y s)) = some .unk := by
        rw [hfr']; simp [k']
      refine do_sound hF (d := d) (k := k') (by simpa using ho) (hget i o d ho hd) hrel hk' fun φ' s' a' w' hks hrel' => ?_
      have es : s' = app d x s1 := by
        by_cases h : s' = app d x s1
        · exact h
        · simp only [k', h, if_false] at hks; cases hks
      subst es
      have hadd := sub_add (fun j => listed.getD j false) (q := (d, x)) (.inr trivial) (l.zip xs) 0 i hpi (by simpa using hnl) (fun j p hj hlt' hlj => by
        simp only [Nat.zero_add] at hlj
        have hI := hind i j (d, x) p hlt' hpi hj (by
          cases h : inB b j i with
          | false => rfl
          | true => have := hcl j i hlj h; rw [hnl] at this; cases this)
        exact ⟨hI.p1, hI.p2, fun t ht => (hI.d1 t ht).2, fun n hn hm => hI.w1 n hn (wrs_nms hm)⟩) s
      simp only [Nat.zero_add] at hadd
      refine ih (listed.setIfInBounds i true) φ' a' w' (by simpa using hls) ?_ ?_ ?_
      · have hsub : ((List.range ops.size).filter fun j => !(listed.setIfInBounds i true).getD j false) = ((List.range ops.size).filter fun j => !listed.getD j false).filter fun j => !Nat.beq j i := by
          rw [List.filter_filter]
          refine List.filter_congr fun j hj => ?_
          have := congrFun (getD_set (arr := listed) (i := i) (by omega)) j
          rw [this]
          unfold with_
          cases Nat.beq j i <;> simp
        rw [hsub]
        have : (((List.range ops.size).filter fun j => !listed.getD j false).filter fun j => !Nat.beq j i).length < ((List.range ops.size).filter fun j => !listed.getD j false).length := by
          rw [List.length_filter_lt_length_iff_exists]
          exact ⟨i, List.mem_filter.2 ⟨List.mem_range.2 hlt, by rw [hnl]; rfl⟩, by simp⟩
        omega
      · have e := getD_set (arr := listed) (i := i) (by omega)
        intro j y hj hy
        have ej := congrFun e j
        have ey := congrFun e y
        rw [ej] at hj
        rw [ey]
        by_cases h1 : y = i
        · subst h1; exact with_eq _ _
        · rw [with_ne h1]
          by_cases h2 : j = i
          · subst h2; exact hdeps y hy
          · rw [with_ne h2] at hj; exact hcl j y hj hy
      · rw [getD_set (by omega)]
        exact hrel'.ag ((hag1.symm.app d x).trans hadd)

theorem draw_sound (hF : Fine P ren R) (hm : P.follows .mixedOrders = true) {id : Nat} {l : List DO} {b : List (List Nat)} (hc : dosOk P ren N ops ops.toList l = true) (hp : pairsOk b 0 l = true) (he : edgesOk b 0 ops.toList = true)
    (h : Rel ren A b0 w0 N φ s a w) {k : St → Option DV} (hk : (runOpsD R 0 l s [] fun s tr => bif okAll b tr then k s else none) = some r)
    (hn : ∀ φ' s' a' w', k s' = some r → Rel ren A b0 w0 N φ' s' a' w' → Q .normal a' w') : (Code.region id ops true).wp P Q a w := by
  obtain ⟨xs, hxl, ⟨tr, sf, h0, h1, h4⟩, h5⟩ := runOpsD_get l 0 s [] _ hk
  cases hb : okAll b tr with
  | false => rw [hb] at h1; cases h1
  | true =>
    rw [hb, cond_true] at h1
    obtain ⟨_, _, h6⟩ := h4 b hb
    refine wp_region_any hm ?_
    refine draw_any hF hc hp he hxl (fun j d x hj hx => by have := h5 j d x hj hx; simpa using this) (fun j j' x x' hlt hj hj' => by have := h6 j j' x x' hlt hj hj'; simpa using this)
      (fun φ' a' w' hrel => hn φ' _ a' w' h1 (hrel.ag h0)) ops.size _ φ a _ (by simp) ?_ ?_ ?_
    · exact Nat.le_trans (List.length_filter_le _ _) (by simp)
    · intro j x hj; simp [Array.getD_eq_getD_getElem?, Array.getElem?_replicate] at hj; split at hj <;> simp at hj
    · have e : (fun j => (Array.replicate ops.size false).getD j false) = fun _ => false := by
        funext j; simp [Array.getD_eq_getD_getElem?, Array.getElem?_replicate]; split <;> rfl
      rw [e]
      have none : ∀ (ps : List (DO × Option Eff)) (i : Nat) (s : St), sub (fun _ => false) i ps s = s := by
        intro ps
        induction ps with
        | nil => intro i s; rfl
        | cons p ps ih => intro i s; simp only [sub, cond_false]; exact ih _ _
      rw [none]
      exact h.drew
end
end Bz
