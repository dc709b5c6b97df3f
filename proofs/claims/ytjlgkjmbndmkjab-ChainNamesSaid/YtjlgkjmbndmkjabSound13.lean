/- Append, copy, a row cut, values compared. -/
import Derived.Test.YtjlgkjmbndmkjabSound12
set_option linter.all false
set_option linter.unusedVariables false
namespace Bz
open Go Go.RowKit

section
variable {ren : Nat → Option Nat} {A : Nat → Prop} {b0 : Nat} {w0 : World} {N : Nat} {φ : Nat → Option Value} {s : St} {a : Act} {w : World}
variable {P : Program} {o : Oper} {nxt : Act → World → Prop} {Q : Exit → Act → World → Prop} {R : Nat → List DV → Option DV} {k : Eff → Option DV} {r : DV}

theorem gather {G : Nat → Prop} {τ : Ty} {rb : Nat} : ∀ (l : List (El τ)) (p : Nat), (∀ i x, l[i]? = some x → ∃ vs, RVs w G φ ren vs (enc τ x) ∧ Has w rb (p + i * τ.esz) vs) →
    ∃ vs, RVs w G φ ren vs (l.flatMap (enc τ)) ∧ Has w rb p vs
  | [], p, _ => ⟨[], .nil, fun j v hj => by simp at hj⟩
  | x :: l, p, hh => by
    obtain ⟨vs, k1, k2⟩ := hh 0 x rfl
    obtain ⟨us, k3, k4⟩ := gather l (p + τ.esz) (fun i y hi => by
      obtain ⟨vs, q1, q2⟩ := hh (i + 1) y (by simpa using hi)
      exact ⟨vs, q1, by rw [show p + τ.esz + i * τ.esz = p + (i + 1) * τ.esz by rw [Nat.add_mul]; omega]; exact q2⟩)
    refine ⟨vs ++ us, by rw [List.flatMap_cons]; exact k1.append k3, fun j v hj => ?_⟩
    have hvl : vs.length = τ.esz := by rw [k1.1, enc_len]
    by_cases hlt : j < vs.length
    · rw [List.getElem?_append_left hlt] at hj
      simpa using k2 j v hj
    · rw [List.getElem?_append_right (by omega)] at hj
      have := k4 _ v hj
      rwa [show p + τ.esz + (j - vs.length) = p + j by omega] at this

/-- What a value gives when its cells are asked for. -/
structure Src (P : Program) (w : World) (v : Value) (size n : Nat) (arr : List Value) : Prop where
  len : ∀ W : World, (Builtin.lenOf v).run P W = .ok n W
  now : (Builtin.firstCells size n v).run P w = .ok arr.toArray w
  drew : (Builtin.firstCells size n v).run P w.drew = .ok arr.toArray w.drew
theorem Src.of_slice {ad : Option Addr} {n cap size : Nat} {arr : List Value} (hl : arr.length = n * size) (hn : ad = none → arr = []) (hc : ∀ x, ad = some x → ∀ j u, arr[j]? = some u → w.cell? (x.add j) = some u) :
    Src P w (.slice ad n cap) size n arr := by
  refine ⟨fun W => by simp [Builtin.lenOf], ?_, ?_⟩
  · cases ad with
    | none => rw [hn rfl]; exact run_firstCells_none w size n n cap
    | some x => exact run_firstCells_some w size n x n cap arr hl (hc x rfl)
  · cases ad with
    | none => rw [hn rfl]; exact run_firstCells_none w.drew size n n cap
    | some x => exact run_firstCells_some w.drew size n x n cap arr hl (fun j u hj => hc x rfl j u hj)
theorem src_sl {G : Nat → Prop} {v : Value} {τ : Ty} {l : List (El τ)} (h : RV w G φ ren v (.sl τ l)) : ∃ ad cap arr, v = .slice ad l.length cap ∧ RVs w G φ ren arr (l.flatMap (enc τ)) ∧ Src P w v τ.esz l.length arr := by
  obtain ⟨ad, cap, vals, ev, hcap, hv, hm⟩ := h.sl_inv
  cases l with
  | nil =>
    refine ⟨ad, cap, [], ev, .nil, ?_⟩
    rw [ev]
    exact Src.of_slice (by simp) (fun _ => rfl) (fun x _ j u hj => by simp at hj)
  | cons x l =>
    have hpos : 0 < (vals 0).length := by rw [(hv 0 x rfl).1, enc_len]; exact esz_pos τ
    obtain ⟨b, f, rfl⟩ := (hm 0 x rfl).some hpos
    obtain ⟨arr, g1, g2⟩ := gather (w := w) (G := G) (φ := φ) (ren := ren) (rb := b) (x :: l) f (fun i y hi => ⟨vals i, ⟨(hv i y hi).1, (hv i y hi).2.1, (hv i y hi).2.2⟩, fun j u hj => by
      obtain ⟨b', f', e1, g, c⟩ := hm i y hi j u hj
      cases e1; exact c⟩)
    refine ⟨_, cap, arr, ev, g1, ?_⟩
    rw [ev]
    refine Src.of_slice (by rw [g1.1, flat_len]) (fun e => by cases e) (fun x hx j u hj => ?_)
    cases hx
    rw [Addr.add_none]; exact g2 j u hj
theorem src_nsl {v : Value} {ad : Option Addr} {size : Nat} (ev : v = .slice ad 0 0) : Src P w v size 0 [] := by
  rw [ev]; exact Src.of_slice (by simp) (fun _ => rfl) (fun x _ j u hj => by simp at hj)
theorem src_row {G : Nat → Prop} {v : Value} {τ : Ty} {l : List (El τ)} (h : RB w G φ ren v (.row τ l)) : ∃ arr, RVs w G φ ren arr (l.flatMap (enc τ)) ∧ Src P w v τ.esz l.length arr := by
  obtain ⟨ad, cap, rfl, hcap, hor⟩ := h
  rcases hor with hz | ⟨rb, b, rfl, g1, g2⟩
  · have hl : l = [] := List.eq_nil_of_length_eq_zero (by omega)
    subst hl
    exact ⟨[], .nil, Src.of_slice (by simp) (fun _ => rfl) (fun x _ j u hj => by simp at hj)⟩
  · obtain ⟨arr, k1, k2⟩ := gather l b g2
    refine ⟨arr, k1, Src.of_slice (by rw [k1.1, flat_len]) (fun e => by cases e) (fun x hx j u hj => ?_)⟩
    cases hx
    rw [Addr.add_none]; exact k2 j u hj
theorem src_str {G : Nat → Prop} {s : ByteArray} : ∃ arr, RVs w G φ ren arr (s.data.toList.flatMap (enc .byte)) ∧ Src P w (.string s) 1 s.data.toList.length arr := by
  refine ⟨s.data.toList.map fun c => .int .u8 c.toNat, ?_, ?_⟩
  · induction s.data.toList with
    | nil => exact .nil
    | cons c l ih => rw [List.flatMap_cons, List.map_cons]; exact .cons rfl (.int _ _) ih
  · have e : s.extract 0 s.data.toList.length = s := by
      have : s.data.toList.length = s.size := by rw [Array.length_toList]; rfl
      rw [this]; exact ByteArray.extract_zero_size
    refine ⟨fun W => by rw [Array.length_toList]; rfl, ?_, ?_⟩
    · simp only [Builtin.firstCells, e, Sem.run_pure]
      congr 1; apply Array.toList_inj.1; simp
    · simp only [Builtin.firstCells, e, Sem.run_pure]
      congr 1; apply Array.toList_inj.1; simp

def notInt : TypeDesc → Bool
  | .slice _ | .string => true
  | _ => false
/-- What an append does. -/
theorem run_app_grow {t u ty e : TypeId} {d : TypeDesc} {i : TypeInfo} {z : Value} (ht : P.underlying t = some (.slice e)) (hu : P.underlying u = some d) (hd : notInt d = true) (hi : P.info? e = some i) (hz : i.zero = some z)
    {base : Option Addr} {sLen sCap n : Nat} {vy : Value} {old new : List Value} (hold : Src P w (.slice base sLen sCap) i.size sLen old) (hnew : Src P w vy i.size n new) (hg : sCap < sLen + n)
    (h63 : sLen + n ≤ 9223372036854775807) (hb : 0 < i.bytes) (hfit : (sLen + n) * i.bytes ≤ 140737488355328) :
    (Builtin.append_ #[t, u] ty #[.slice base sLen sCap, vy]).run P w =
      .ok (.slice (some ⟨w.heap.size, 0, none⟩) (sLen + n) (grownCap w (sLen + n) sCap e)) (w.drew.alloc (.cells (old.toArray ++ new.toArray ++ Builtin.zeroCells z.cells (grownCap w (sLen + n) sCap e - (sLen + n))) e)) := by
  have hn : ¬ (sLen + n ≤ sCap) := by omega
  have h63' : ¬ (9223372036854775807 < ((sLen : Int) + (n : Int))) := by omega
  have h48 := growslice_fits hg hfit
  have h48' : ¬ (281474976710656 < Builtin.nextslicecap (sLen + n) sCap * i.bytes) := by omega
  cases d <;> first | (simp [notInt] at hd; done) | skip
  all_goals simp [Builtin.append_, run_underlying ht, run_underlying hu, Go.sizeOf, typeInfo, zeroValue, hi, hz, hnew.len, hn, h63', h48', Question.forced, hold.drew, hnew.drew, newRow, grownCap]
  all_goals simp only [← Array.append_assoc, List.append_toArray]
theorem run_app_fit {t u ty e : TypeId} {d : TypeDesc} {i : TypeInfo} (ht : P.underlying t = some (.slice e)) (hu : P.underlying u = some d) (hd : notInt d = true) (hi : P.info? e = some i)
    {base : Option Addr} {sLen sCap n : Nat} {vy : Value} {new : List Value} (hnew : Src P w vy i.size n new) (hg : sLen + n ≤ sCap)
    {w' : World} (hb : ∀ ad, base = some ad → (storeCells (ad.add (sLen * i.size)) new).run P w = .ok () w') (hnone : base = none → w' = w) :
    (Builtin.append_ #[t, u] ty #[.slice base sLen sCap, vy]).run P w = .ok (.slice base (sLen + n) sCap) w' := by
  cases base with
  | none =>
    rw [hnone rfl]
    cases d <;> first | (simp [notInt] at hd; done) | skip
    all_goals simp [Builtin.append_, run_underlying ht, run_underlying hu, Go.sizeOf, typeInfo, hi, hnew.len, hg, hnew.now]
  | some ad =>
    have := hb ad rfl
    cases d <;> first | (simp [notInt] at hd; done) | skip
    all_goals simp [Builtin.append_, run_underlying ht, run_underlying hu, Go.sizeOf, typeInfo, hi, hnew.len, hg, hnew.now, this]
theorem le_grownCap (need old : Nat) (e : TypeId) : need ≤ grownCap w need old e := by
  unfold grownCap; simp only [Question.cut]; omega

def appOk (P : Program) (ren : Nat → Option Nat) (c : Call) (τ : Ty) (x' y' : Opd) : Bool :=
  match c.callee, c.args.toList, c.argTypes.toList with
  | .builtin .append, [x, y], [t, u] => (opdOk ren x x' && opdOk ren y y') && (elOk P t τ [] && (match P.underlying u with
    | some d => notInt d
    | none => false))
  | _, _, _ => false

/-- The list that is laid behind. -/
theorem app_y (h : Rel ren A b0 w0 N φ s a w) {v : Value} {d : DV} (h1 : Op1 ren A b0 φ s w v d) {τ : Ty} {x : DV} {add : List (El τ) → List Nat → Option DV}
    (hk : appY s τ x d add = some r) :
    ∃ l rd arr, add l rd = some r ∧ RVs w (Gd A b0 s φ w) φ ren arr (l.flatMap (enc τ)) ∧ Src P w v τ.esz l.length arr := by
  unfold appY at hk
  cases d with
  | sl σ l =>
    dsimp only at hk
    split at hk
    · rename_i l' hl'
      obtain ⟨rfl, rfl⟩ := castL_some hl'
      obtain ⟨ad, cap, arr, ev, g1, g2⟩ := src_sl (P := P) h1.rv
      exact ⟨_, _, arr, hk, g1, g2⟩
    · cases hk
  | nsl σ =>
    dsimp only at hk
    obtain ⟨ad, ev⟩ := h1.rv.nsl_inv
    exact ⟨_, _, [], hk, .nil, src_nsl ev⟩
  | lsl m =>
    dsimp only at hk
    split at hk
    · rename_i σ l hb
      split at hk
      · rename_i l' hl'
        obtain ⟨rfl, rfl⟩ := castL_some hl'
        have hk' : ∀ c : Bool, (bif c then add l' [m] else none) = some r → add l' [m] = some r := by intro c; cases c <;> simp
        replace hk' := hk' _ hk
        obtain ⟨hd, hφ, hR, _⟩ := h.sto m _ hb
        have e1 := h1.rv.lsl_inv
        rw [hφ] at e1; cases e1
        obtain ⟨arr, g1, g2⟩ := src_row (P := P) hR
        exact ⟨_, _, arr, hk', g1, g2⟩
      · cases hk
    · cases hk
  | str b =>
    dsimp only at hk
    split at hk
    · rename_i l' hl'
      obtain ⟨e, rfl⟩ := castL_some hl'
      subst e
      rw [h1.rv.str_inv]
      obtain ⟨arr, g1, g2⟩ := src_str (P := P) (w := w) (G := Gd A b0 s φ w) (φ := φ) (ren := ren) (s := b)
      exact ⟨_, _, arr, hk, g1, g2⟩
    · cases hk
  | _ => dsimp only at hk; cases hk

theorem prior_cap {t : TypeId} {τ : Ty} (h : elOk P t τ [] = true) : ∃ el i z, P.underlying t = some (.slice el) ∧ P.info? el = some i ∧ i.zero = some z ∧ i.size = τ.esz ∧ i.bytes = τ.bytes ∧ z.cells.size = τ.esz := by
  obtain ⟨el, i, z, h1, h2, h3, h4, h5, h6, _⟩ := elOk_get h; exact ⟨el, i, z, h1, h2, h3, h4, h5, h6⟩
theorem zc_size {z : Array Value} {n : Nat} : (Builtin.zeroCells z n).size = n * z.size := by simp [Builtin.zeroCells]
theorem flat_drew {τ : Ty} {l : List (El τ)} {vs : List Value} (n1 : RVs w (Gd A b0 s φ w) φ ren vs (l.flatMap (enc τ))) : RVs w.drew (Gd A b0 s φ w.drew) φ ren vs (l.flatMap (enc τ)) :=
  RVs.mono (w := w) (w' := w.drew) (G := Gd A b0 s φ w) (G' := Gd A b0 s φ w.drew) (φ' := φ) (fun r hr => hr) (fun x hx => rfl) n1
    (fun d hd => by obtain ⟨q, _, hq⟩ := List.mem_flatMap.1 hd; exact NamesOk.enc _ τ q d hq)
theorem flat_names {τ : Ty} {l : List (El τ)} {f : Nat → Prop} : ∀ d ∈ l.flatMap (enc τ), NamesOk f d := fun d hd => by
  obtain ⟨q, _, hq⟩ := List.mem_flatMap.1 hd; exact NamesOk.enc _ τ q d hq
theorem s_append {c : Call} {nm : Nat} {τ : Ty} {x' y' : Opd} (ho : o.op = .call c) (hc : appOk P ren c τ x' y' = true)
    (h : Rel ren A b0 w0 N φ s a w) (hk : eff R s (.append nm τ x' y') k = some r) (hx : Nx ren A b0 w0 N s a k r fun v w' => nxt (a.put o.dst v) w') : o.wp P a w nxt Q := by
  unfold appOk at hc
  split at hc
  · rename_i x y t u hcal hargs htys
    simp only [Bool.and_eq_true] at hc
    have hu := hc.2.2
    split at hu
    · rename_i du hdu
      obtain ⟨el, i, z, ht, hi, hz, e1, e2, e3⟩ := prior_cap hc.2.1
      simp only [eff] at hk
      replace ⟨dx, hk, h1⟩ := opd_sound h hc.1.1 hk
      replace ⟨dy, hk, h2⟩ := opd_sound h hc.1.2 hk
      obtain ⟨l2, rd, new, hk, n1, n2⟩ := app_y (P := P) h h2 hk
      have hargs' := arr_eq hargs
      have htys' := arr_eq htys
      have fin : ∀ (v : Value) (w' : World), (Builtin.append_ #[t, u] o.type #[a.eval x, a.eval y]).run P w = .ok v w' → nxt (a.put o.dst v) w' → o.wp P a w nxt Q := by
        intro v w' run hn
        refine wp_val (v := v) (w' := w') ?_ hn
        simp only [execOp, ho, resolve, hcal, hargs', htys', pure_bind, invoke, builtin, List.map_toArray, List.map_cons, List.map_nil, Sem.run_bind, run, Result.andThen_ok, Sem.run_pure]
      have hbp : 0 < i.bytes := by rw [e2]; exact bytes_pos τ
      rw [← e1] at n2
      unfold appAdd at hk
      cases dx with
      | nsl σ =>
        dsimp only at hk
        simp only [gd] at hk
        cases hg : room τ l2.length with
        | false => simp [hg] at hk
        | true =>
        simp only [hg, cond_true] at hk
        have hrm := room_le hg
        have hle : l2.length ≤ 140737488355328 := Nat.le_trans (Nat.le_mul_of_pos_right _ (bytes_pos τ)) hrm
        obtain ⟨ad, ev⟩ := h1.rv.nsl_inv
        by_cases hz0 : l2.length = 0
        · have hl2 : l2 = [] := List.eq_nil_of_length_eq_zero hz0
          subst hl2
          have hnew : new = [] := n1.unnil
          subst hnew
          have run := run_app_fit (P := P) (w := w) (ty := o.type) ht hdu hu hi (base := ad) (sLen := 0) (sCap := 0) n2 (by simp) (w' := w) (fun ad _ => by simp [storeCells]) (fun _ => rfl)
          rw [← ev] at run
          have := h.renew (e := { v := .lsl nm, bl := [(nm, .row τ [])], pg := anew s nm, rd }) (hv := .slice ad 0 0) (w' := w) rfl rfl rfl (Turn.refl w _) (fun r hr => by cases ad <;> cases hr)
            (fun φ' G' _ => ⟨ad, 0, rfl, Nat.le_refl _, .inl rfl⟩)
          exact fin _ _ run (hx _ _ _ _ hk this.1 this.2)
        · have hold : Src P w (.slice ad 0 0) i.size 0 [] := src_nsl rfl
          have run := run_app_grow (P := P) (w := w) (ty := o.type) ht hdu hu hi hz (sLen := 0) (sCap := 0) hold n2 (by omega) (by omega) hbp (by rw [Nat.zero_add, e2]; exact hrm)
          rw [← ev] at run
          simp only [Nat.zero_add] at run
          have hcap := le_grownCap (w := w) l2.length 0 el
          obtain ⟨φ', g1, g2⟩ := newRow' (h.drew) (nm := nm) (t := el) (τ := τ) (l := l2) (cap := grownCap w l2.length 0 el) (vs := new) (rest := (Builtin.zeroCells z.cells (grownCap w l2.length 0 el - l2.length)).toList)
            (arr := #[] ++ new.toArray ++ Builtin.zeroCells z.cells (grownCap w l2.length 0 el - l2.length)) hcap
            (by
              have hn : new.length = l2.length * τ.esz := by rw [n1.1, flat_len]
              simp only [Array.size_append, zc_size, List.size_toArray, e3, hn]
              rw [List.length_nil, Nat.zero_add, ← Nat.add_mul]; congr 1; omega)
            (by simp) (flat_drew n1)
            (e := { v := .lsl nm, bl := [(nm, .row τ l2)], pg := anew s nm, rd }) rfl rfl
          exact fin _ _ run (hx _ _ _ _ hk g1 g2)
      | lsl n =>
        dsimp only at hk
        split at hk
        · rename_i σ l hb
          split at hk
          · rename_i l1 hl1
            obtain ⟨rfl, rfl⟩ := castL_some hl1
            obtain ⟨hd, hφ, hR, hown⟩ := h.sto n _ hb
            have e4 := h1.rv.lsl_inv
            rw [hφ] at e4; cases e4
            obtain ⟨old, o1, o2⟩ := src_row (P := P) hR
            have key : room σ (l1.length + l2.length) = true → ∀ (e : Eff), ((e.bl = [(nm, .row σ (l1 ++ l2))] ∧ nm = n) ∨ (n ≠ nm ∧ e.bl = [(nm, .row σ (l1 ++ l2)), (n, .gone)] ∧ ¬ Bnd s nm)) → e.pg = [n] → e.v = .lsl nm → k e = some r → o.wp P a w nxt Q := by
              intro hg e hbl hpg hev hk
              have hrm := room_le hg
              have hle : l1.length + l2.length ≤ 140737488355328 := Nat.le_trans (Nat.le_mul_of_pos_right _ (bytes_pos σ)) hrm
              have hlen : (l1 ++ l2).length = l1.length + l2.length := List.length_append
              obtain ⟨ad, cap, ev, hcap, hor⟩ := hR
              -- what is to be shown of the new row
              have fin2 : ∀ (w' : World) (ad' : Option Addr) (cap' : Nat), (Builtin.append_ #[t, u] o.type #[a.eval x, a.eval y]).run P w = .ok (.slice ad' (l1.length + l2.length) cap') w' →
                  Turn w w' (fun r => ownr (a.eval x) = some r) → (∀ r, ownr (.slice ad' (l1.length + l2.length) cap') = some r → r < w'.heap.size ∧ (w.heap.size ≤ r ∨ ownr (a.eval x) = some r)) → l1.length + l2.length ≤ cap' →
                  ((∀ φ' (G' : Nat → Prop), (∀ r, Gd A b0 s φ w r → G' r) → cap' = 0 ∨ ∃ r b, ad' = some ⟨r, b, none⟩ ∧ Wri w' r b (cap' * σ.esz) ∧ ∀ i x, (l1 ++ l2)[i]? = some x → ∃ vs, RVs w' G' φ' ren vs (enc σ x) ∧ Has w' r (b + i * σ.esz) vs)) →
                  o.wp P a w nxt Q := by
                intro w' ad' cap' run hT hO hcap' hrow
                have hob : ∀ r, ownr (a.eval x) = some r ↔ ∃ m b hh, m ∈ e.pg ∧ blk s m = some b ∧ φ m = some hh ∧ ownr hh = some r := by
                  intro r
                  rw [hpg]
                  constructor
                  · exact fun hr => ⟨n, _, _, by simp, hb, hφ, hr⟩
                  · rintro ⟨m, b, hh, hm, g1, g2, g3⟩
                    simp only [List.mem_singleton] at hm; subst hm
                    rw [hφ] at g2; cases g2; exact g3
                have := h.onBind (e := e) (nm := nm) (b' := .row σ (l1 ++ l2)) (k := .slice ad' (l1.length + l2.length) cap') (w' := w') (by simp)
                  (by
                    rcases hbl with ⟨g1, rfl⟩ | ⟨g1, g2, _⟩
                    · exact .inl ⟨g1, .inr hpg⟩
                    · exact .inr ⟨n, g1, g2, hpg⟩) trivial
                  (by
                    rcases hbl with ⟨g1, rfl⟩ | ⟨g1, g2, g3⟩
                    · exact .inl (by rw [hpg]; simp)
                    · exact .inr g3)
                  ⟨hT.os, hT.tape, hT.output, hT.size, fun k hk hX => hT.block k hk fun e => hX ((hob k).1 e)⟩
                  (fun r hr => ⟨(hO r hr).1, (hO r hr).2.imp id fun g => (hob r).1 g⟩)
                  (fun hG => ⟨ad', cap', by rw [hlen], by rw [hlen]; exact hcap', hrow _ _ hG⟩)
                  (fun cs hcs => by cases hcs)
                refine fin _ _ run (hx _ _ e _ hk this.1 ⟨?_, ?_⟩)
                · rw [hev]; exact .lsl (by simp) rfl
                · rw [hev]; exact .lsl this.2.2.2
              have hgt : ∀ z : Addr, Gd A b0 s φ w z.block → z.block < w.heap.size ∧ ¬ ownr (a.eval x) = some z.block :=
                fun z hz => ⟨hz.1, fun e => hz.2.1 ⟨n, _, _, hb, hφ, e⟩⟩
              have hnl : new.length = l2.length * σ.esz := by rw [n1.1, flat_len]
              by_cases hfit : l1.length + l2.length ≤ cap
              · by_cases hc0 : cap = 0
                · have hl2 : l2 = [] := List.eq_nil_of_length_eq_zero (by omega)
                  subst hl2
                  have hnew : new = [] := n1.unnil
                  subst hnew
                  have run := run_app_fit (P := P) (w := w) (ty := o.type) ht hdu hu hi (base := ad) (sLen := l1.length) (sCap := cap) n2 hfit (w' := w) (fun ad _ => by simp [storeCells]) (fun _ => rfl)
                  rw [← ev] at run
                  exact fin2 w ad cap run (Turn.refl w _) (fun r hr => by subst hc0; cases ad <;> cases hr) hfit (fun _ _ _ => .inl hc0)
                · rcases hor with hz' | ⟨rb, b, rfl, g3, g4⟩
                  · exact absurd hz' hc0
                  · have hown' : ownr (a.eval x) = some rb := by
                      rw [ev]
                      cases cap with
                      | zero => exact absurd rfl hc0
                      | succ cap => rfl
                    have hin : ∀ j, j < new.length → (∃ v, w.cell? ⟨rb, b + l1.length * σ.esz + j, none⟩ = some v) ∧ w.frozen? ⟨rb, b + l1.length * σ.esz + j, none⟩ = false := by
                      intro j hj
                      have hm := Nat.mul_le_mul_right σ.esz hfit
                      rw [Nat.add_mul] at hm
                      have := g3 (l1.length * σ.esz + j) (by omega)
                      rwa [← Nat.add_assoc] at this
                    have hcell : ∀ j, j < new.length → (w.cell? ⟨rb, b + l1.length * σ.esz + j, none⟩).isSome = true := by
                      intro j hj; obtain ⟨⟨v, hv⟩, _⟩ := hin j hj; rw [hv]; rfl
                    have hst := run_storeCells_cells (P := P) rb (b + l1.length * σ.esz) new 0 w (by simpa using hcell) (by simpa using fun j hj => (hin j hj).2) n1.2.1
                    have run := run_app_fit (P := P) (w := w) (ty := o.type) ht hdu hu hi (base := some ⟨rb, b, none⟩) (sLen := l1.length) (sCap := cap) n2 hfit (w' := w.setCells rb (b + l1.length * σ.esz) new)
                      (fun ad had => by cases had; rw [Addr.add_none, e1]; simpa using hst) (fun e => by cases e)
                    rw [← ev] at run
                    have hT := setCells_turn rb new (b + l1.length * σ.esz) w
                    refine fin2 _ _ _ run ⟨hT.os, hT.tape, hT.output, hT.size, fun k hk hX => hT.block k hk fun e => hX (by rw [hown', e])⟩ (fun r hr => ?_) hfit (fun φ' G' hG => .inr ⟨rb, b, rfl, setCells_wri g3 hcell, fun i q hq => ?_⟩)
                    · have : r = rb := by
                        cases cap with
                        | zero => exact absurd rfl hc0
                        | succ cap => simp only [ownr, Option.some.injEq] at hr; exact hr.symm
                      subst this
                      rw [setCells_size]
                      exact ⟨(hown _ hown').2, .inr hown'⟩
                    · have hcl : ∀ z : Addr, Gd A b0 s φ w z.block → (w.setCells rb (b + l1.length * σ.esz) new).cell? z = w.cell? z := fun z hz => hT.cell (hgt z hz).1 fun e => (hgt z hz).2 (by rw [hown', e])
                      by_cases hil : i < l1.length
                      · rw [List.getElem?_append_left hil] at hq
                        obtain ⟨vs, k1, k2⟩ := g4 i q hq
                        refine ⟨vs, k1.mono hG hcl (fun d hd => NamesOk.enc _ σ q d hd), setCells_has_out k2 (.inl ?_)⟩
                        have := Nat.mul_le_mul_right σ.esz (show i + 1 ≤ l1.length by omega)
                        rw [Nat.add_mul, Nat.one_mul] at this
                        rw [k1.1, enc_len]; omega
                      · rw [List.getElem?_append_right (by omega)] at hq
                        obtain ⟨us, k1, k2⟩ := n1.elem hq
                        refine ⟨us, k1.mono hG hcl (fun d hd => NamesOk.enc _ σ q d hd), fun j u hj => ?_⟩
                        have h3 := k2 j u hj
                        have hlt := (List.getElem?_eq_some_iff.1 h3).1
                        have := World.cell?_setCells_in rb new (b + l1.length * σ.esz) w hcell _ hlt
                        have hsub : i * σ.esz = l1.length * σ.esz + (i - l1.length) * σ.esz := by rw [← Nat.add_mul]; congr 1; omega
                        rw [show b + i * σ.esz + j = b + l1.length * σ.esz + ((i - l1.length) * σ.esz + j) by omega, this, ← h3, List.getElem?_eq_getElem hlt]
              · have hold : Src P w (.slice ad l1.length cap) i.size l1.length old := by rw [← ev, e1]; exact o2
                have run := run_app_grow (P := P) (w := w) (ty := o.type) ht hdu hu hi hz hold n2 (by omega) (by omega) hbp (by rw [e2]; exact hrm)
                rw [← ev] at run
                have hcap2 := le_grownCap (w := w) (l1.length + l2.length) cap el
                have hol : old.length = l1.length * σ.esz := by rw [o1.1, flat_len]
                have hT : Turn w (w.drew.alloc (.cells (old.toArray ++ new.toArray ++ Builtin.zeroCells z.cells (grownCap w (l1.length + l2.length) cap el - (l1.length + l2.length))) el)) fun r => ownr (a.eval x) = some r :=
                  (Turn.drew w _).trans (Turn.alloc _ _ _)
                have hsz : (old.toArray ++ new.toArray ++ Builtin.zeroCells z.cells (grownCap w (l1.length + l2.length) cap el - (l1.length + l2.length))).size = grownCap w (l1.length + l2.length) cap el * σ.esz := by
                  simp only [Array.size_append, zc_size, List.size_toArray, e3, hol, hnl]
                  rw [← Nat.add_mul, ← Nat.add_mul]; congr 1; omega
                refine fin2 _ _ _ run hT (fun r hr => ?_) hcap2 (fun φ' G' hG => .inr ⟨w.heap.size, 0, rfl, by rw [← hsz]; exact new_wri w.drew _ el, fun i q hq => ?_⟩)
                · have : r = w.heap.size := by
                    cases hgc : grownCap w (l1.length + l2.length) cap el with
                    | zero => rw [hgc] at hr; cases hr
                    | succ n => rw [hgc] at hr; simp only [ownr, Option.some.injEq] at hr; exact hr.symm
                  subst this
                  exact ⟨by simp, .inl (Nat.le_refl _)⟩
                · have hall := o1.append n1
                  rw [← List.flatMap_append] at hall
                  obtain ⟨us, k1, k2⟩ := hall.elem hq
                  refine ⟨us, k1.mono hG (fun z hz => hT.cell (hgt z hz).1 (hgt z hz).2) (fun d hd => NamesOk.enc _ σ q d hd), fun j u hj => ?_⟩
                  have h3 := k2 j u hj
                  have := new_has w.drew (old.toArray ++ new.toArray ++ Builtin.zeroCells z.cells (grownCap w (l1.length + l2.length) cap el - (l1.length + l2.length))) el (i * σ.esz + j) u (by
                    rw [Array.toList_append, Array.toList_append, List.getElem?_append_left (by simpa using (List.getElem?_eq_some_iff.1 h3).1)]
                    simpa using h3)
                  rwa [show 0 + (i * σ.esz + j) = 0 + i * σ.esz + j by omega] at this
            cases hnn : Nat.beq nm n with
            | true =>
              have := Nat.eq_of_beq_eq_true hnn
              simp only [hnn, cond_true, gd] at hk
              cases hg : room σ (l1.length + l2.length) with
              | false => simp [hg] at hk
              | true =>
                simp only [hg, cond_true] at hk
                exact key hg _ (.inl ⟨rfl, this⟩) rfl rfl hk
            | false =>
              have := beq_false_ne hnn
              simp only [hnn, cond_false] at hk
              obtain ⟨hk, hf⟩ := free_get hk
              simp only [gd] at hk
              cases hg : room σ (l1.length + l2.length) with
              | false => simp [hg] at hk
              | true =>
                simp only [hg, cond_true] at hk
                exact key hg _ (.inr ⟨fun e => this e.symm, rfl, hf⟩) rfl rfl hk
          · cases hk
        · cases hk
      | _ => dsimp only at hk; cases hk
    · cases hu
  · cases hc
end
end Bz
