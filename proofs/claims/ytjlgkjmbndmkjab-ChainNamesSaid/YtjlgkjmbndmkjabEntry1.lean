/- Arguments that are read as data, as plain values. -/
import Derived.Test.YtjlgkjmbndmkjabSound24
import Derived.ChangeShapes
import Derived.ChangeMaps5
import Derived.DataReads
set_option linter.all false
set_option linter.unusedVariables false
namespace Bz
open Go Go.RowKit

inductive CK where
  | bool
  | int (k : IntKind)
  | float
  | str
  | sl (τ : Ty)
def ckVal : List CK := [.int .u8, .float, .str, .int .i64]
def ckKey : List CK := [.str, .int .i64]
def ckDsc : List CK := .int .u8 :: (ckVal ++ (ckVal ++ (ckVal ++ [.bool, .bool, .bool])))
def ckOut : List CK := .int .u8 :: (ckVal ++ (.bool :: .bool :: (ckDsc ++ [.sl .key, .int .u8, .str])))
def ckOf : Ty → List CK
  | .int => [.int .i64]
  | .byte => [.int .u8]
  | .bool => [.bool]
  | .str => [.str]
  | .val => ckVal
  | .key => ckKey
  | .prp => ckKey ++ ckDsc
  | .obj => .int .u8 :: (ckVal ++ (.bool :: .sl .prp :: (ckVal ++ (ckVal ++ [.str, .bool, .bool]))))
  | .seen => .int .i64 :: .int .i64 :: .int .u8 :: (ckKey ++ (.bool :: ckOut))

/-- A cell of a kind, well formed. -/
inductive CKd : CK → DV → Prop
  | bool (b : Bool) : CKd .bool (.bool b)
  | int {k : IntKind} {n : Int} : k.min ≤ n → n ≤ k.max → CKd (.int k) (.int k n)
  | float {b : Nat} : b < 2 ^ 64 → CKd .float (.float b)
  | str {s : ByteArray} : s.size ≤ maxLen → CKd .str (.str s)
  | sl {τ : Ty} {l : List (El τ)} : l.length ≤ maxLen → (∀ x ∈ l, ∀ (j : Nat) k d, (ckOf τ)[j]? = some k → (enc τ x)[j]? = some d → CKd k d) → CKd (.sl τ) (.sl τ l)
/-- Cells one by one. -/
inductive CKs : List CK → List DV → Prop
  | nil : CKs [] []
  | cons {k : CK} {d : DV} {ks : List CK} {ds : List DV} : CKd k d → CKs ks ds → CKs (k :: ks) (d :: ds)
theorem CKs.split : ∀ {a b : List CK} {ds : List DV}, CKs (a ++ b) ds → ∃ d1 d2, ds = d1 ++ d2 ∧ CKs a d1 ∧ CKs b d2 := by
  intro a
  induction a with
  | nil => intro b ds h; exact ⟨[], ds, rfl, .nil, h⟩
  | cons k a ih =>
    intro b ds h
    cases h with
    | cons h1 h2 =>
      obtain ⟨d1, d2, rfl, q1, q2⟩ := ih h2
      exact ⟨_ :: d1, d2, rfl, .cons h1 q1, q2⟩
theorem CKs.app : ∀ {a b : List CK} {d1 d2 : List DV}, CKs a d1 → CKs b d2 → CKs (a ++ b) (d1 ++ d2) := by
  intro a b d1 d2 h k
  induction h with
  | nil => exact k
  | cons h1 h2 ih => exact .cons h1 ih
theorem CKs.get : ∀ {a : List CK} {ds : List DV}, CKs a ds → ∀ (j : Nat) k d, a[j]? = some k → ds[j]? = some d → CKd k d := by
  intro a ds h
  induction h with
  | nil => intro j k d hj; simp at hj
  | cons h1 h2 ih =>
    intro j k d hj hd
    cases j with
    | zero => simp at hj hd; subst hj; subst hd; exact h1
    | succ j => simp at hj hd; exact ih j k d hj hd

theorem CKs.val {ds : List DV} (h : CKs ckVal ds) : ∃ v : Val, ds = v.enc := by
  unfold ckVal at h
  cases h with | cons h1 h => cases h with | cons h2 h => cases h with | cons h3 h => cases h with | cons h4 h => cases h; cases h1; cases h2; cases h3; cases h4; exact ⟨⟨_, _, _, _⟩, rfl⟩
theorem CKs.key {ds : List DV} (h : CKs ckKey ds) : ∃ v : Key, ds = v.enc := by
  unfold ckKey at h
  cases h with | cons h1 h => cases h with | cons h2 h => cases h; cases h1; cases h2; exact ⟨⟨_, _⟩, rfl⟩
theorem CKs.dsc {ds : List DV} (h : CKs ckDsc ds) : ∃ v : Dsc, ds = v.enc := by
  unfold ckDsc at h
  cases h with
  | cons h1 h =>
    obtain ⟨d1, r1, e1, g1, q1⟩ := h.split
    obtain ⟨d2, r2, e2, g2, q2⟩ := q1.split
    obtain ⟨d3, r3, e3, g3, q3⟩ := q2.split
    obtain ⟨v1, rfl⟩ := g1.val
    obtain ⟨v2, rfl⟩ := g2.val
    obtain ⟨v3, rfl⟩ := g3.val
    cases q3 with | cons h5 h => cases h with | cons h6 h => cases h with | cons h7 h => cases h; cases h1; cases h5; cases h6; cases h7; exact ⟨⟨_, _, _, _, _, _, _⟩, by rw [e1, e2, e3]; rfl⟩
theorem CKs.out {ds : List DV} (h : CKs ckOut ds) : ∃ v : Out, ds = v.enc := by
  unfold ckOut at h
  cases h with
  | cons h1 h =>
    obtain ⟨d1, r1, e1, g1, q1⟩ := h.split
    obtain ⟨v1, rfl⟩ := g1.val
    cases q1 with | cons h2 q => cases q with | cons h3 q =>
    obtain ⟨d2, r2, e2, g2, q2⟩ := q.split
    obtain ⟨v2, rfl⟩ := g2.dsc
    cases q2 with | cons h5 h => cases h with | cons h6 h => cases h with | cons h7 h => cases h; cases h1; cases h2; cases h3; cases h5; cases h6; cases h7; exact ⟨⟨_, _, _, _, _, _, _, _⟩, by rw [e1, e2]; rfl⟩
theorem CKs.dec (τ : Ty) {ds : List DV} (h : CKs (ckOf τ) ds) : ∃ x : El τ, ds = enc τ x := by
  cases τ with
  | int => simp only [ckOf] at h; cases h with | cons h1 h => cases h; cases h1; exact ⟨_, rfl⟩
  | byte =>
    simp only [ckOf] at h
    cases h with | cons h1 h => cases h; cases h1 with | int a b =>
    rename_i n
    have e1 : (0 : Int) ≤ n := a
    have e2 : n ≤ 255 := b
    refine ⟨UInt8.ofNat n.toNat, ?_⟩
    have : ((UInt8.ofNat n.toNat).toNat : Int) = n := by
      have : n.toNat < 256 := by omega
      simp [Nat.mod_eq_of_lt this]; omega
    simp only [enc]; rw [this]
  | bool => simp only [ckOf] at h; cases h with | cons h1 h => cases h; cases h1; exact ⟨_, rfl⟩
  | str => simp only [ckOf] at h; cases h with | cons h1 h => cases h; cases h1; exact ⟨_, rfl⟩
  | val => exact CKs.val h
  | key => exact CKs.key h
  | prp =>
    obtain ⟨d1, r1, e1, g1, q1⟩ := CKs.split (a := ckKey) (b := ckDsc) h
    obtain ⟨v1, rfl⟩ := g1.key
    obtain ⟨v2, rfl⟩ := q1.dsc
    exact ⟨(⟨v1, v2⟩ : Prp), e1⟩
  | obj =>
    simp only [ckOf] at h
    cases h with
    | cons h1 h =>
      obtain ⟨d1, r1, e1, g1, q1⟩ := h.split
      obtain ⟨v1, rfl⟩ := g1.val
      cases q1 with | cons h2 q => cases q with | cons h3 q =>
      obtain ⟨d2, r2, e2, g2, q2⟩ := q.split
      obtain ⟨v2, rfl⟩ := g2.val
      obtain ⟨d3, r3, e3, g3, q3⟩ := q2.split
      obtain ⟨v3, rfl⟩ := g3.val
      cases q3 with | cons h5 h => cases h with | cons h6 h => cases h with | cons h7 h => cases h; cases h1; cases h2; cases h3; cases h5; cases h6; cases h7; exact ⟨(⟨_, _, _, _, _, _, _, _, _⟩ : Obj), by rw [e1, e2, e3]; rfl⟩
  | seen =>
    simp only [ckOf] at h
    cases h with | cons h1 h => cases h with | cons h2 h => cases h with | cons h3 h =>
    obtain ⟨d1, r1, e1, g1, q1⟩ := h.split
    obtain ⟨v1, rfl⟩ := g1.key
    cases q1 with | cons h5 q =>
    obtain ⟨v2, e2⟩ := q.out
    cases h1; cases h2; cases h3; cases h5
    exact ⟨(⟨_, _, _, _, _, _⟩ : Seen), by rw [e1, e2]; rfl⟩

def ckEq : CK → CK → Bool
  | .bool, .bool => true
  | .int k, .int k' => kindEq k k'
  | .float, .float => true
  | .str, .str => true
  | _, _ => false
def chkFs (P : Program) (F : TypeId → List CK → Bool) : List Go.Field → Nat → List CK → Bool
  | [], _, [] => true
  | [], _, _ :: _ => false
  | f :: fs, off, ks => Nat.beq f.offset off && (F f.type (ks.take (P.cellsOf f.type)) && chkFs P F fs (off + P.cellsOf f.type) (ks.drop (P.cellsOf f.type)))
/-- The cells of a type are of these kinds. -/
def chkT (P : Program) : Nat → TypeId → List CK → Bool
  | 0, _, _ => false
  | n + 1, t, ks => match P.underlying t with
    | some .bool => (match ks with | [k] => ckEq k .bool | _ => false)
    | some (.int q) => (match ks with | [k] => ckEq k (.int q) | _ => false)
    | some (.float .f64) => (match ks with | [k] => ckEq k .float | _ => false)
    | some .string => (match ks with | [k] => ckEq k .str | _ => false)
    | some (.slice e) => (match ks with | [.sl τ] => Nat.beq (P.cellsOf e) τ.esz && chkT P n e (ckOf τ) | _ => false)
    | some (.struct fs) => Nat.beq (P.cellsOf t) ks.length && chkFs P (chkT P n) fs.toList 0 ks
    | _ => false
theorem ckEq_eq {a b : CK} (h : ckEq a b = true) : a = b := by
  unfold ckEq at h
  split at h <;> first | rfl | (obtain rfl := kindEq_eq h; rfl) | cases h
theorem CKs.len {ks : List CK} {ds : List DV} (h : CKs ks ds) : ds.length = ks.length := by
  induction h with
  | nil => rfl
  | cons _ _ ih => simp [ih]

section
variable {H : Type} {en : TypeId × Value → H} {P : Program} {w : World} {base : Nat} {spare : Nat → Bool} {held : Bool} {ren : Nat → Option Nat}
theorem elNe (τ : Ty) : Nonempty (El τ) := by
  have V : Val := ⟨0, 0, ⟨#[]⟩, 0⟩
  have K : Key := ⟨⟨#[]⟩, 0⟩
  have D : Dsc := ⟨0, V, V, V, false, false, false⟩
  cases τ with
  | int => exact ⟨(0 : Int)⟩
  | byte => exact ⟨(0 : UInt8)⟩
  | bool => exact ⟨false⟩
  | str => exact ⟨(⟨#[]⟩ : ByteArray)⟩
  | val => exact ⟨V⟩
  | key => exact ⟨K⟩
  | prp => exact ⟨(⟨K, D⟩ : Prp)⟩
  | obj => exact ⟨(⟨0, V, false, [], V, V, ⟨#[]⟩, false, false⟩ : Obj)⟩
  | seen => exact ⟨(⟨0, 0, 0, K, false, ⟨0, V, false, false, D, [], 0, ⟨#[]⟩⟩⟩ : Seen)⟩
def AllG (w : World) : Nat → Prop := fun r => r < w.heap.size ∧ True
theorem fields_rv {F : TypeId → List CK → Bool} {T : TypeId → List Value → Prop}
    (hF : ∀ t ks cs, F t ks = true → T t cs → ∃ ds, CKs ks ds ∧ RVs w (AllG w) (fun _ => none) ren cs ds) (cs : List Value) :
    ∀ (fs : List Go.Field) (off : Nat) (ks : List CK), chkFs P F fs off ks = true → (∀ f ∈ fs, T f.type ((cs.drop f.offset).take (P.cellsOf f.type))) →
      ∃ ds m, CKs ks ds ∧ RVs w (AllG w) (fun _ => none) ren ((cs.drop off).take m) ds := by
  intro fs
  induction fs with
  | nil =>
    intro off ks h _
    cases ks with
    | nil => exact ⟨[], 0, .nil, by simpa using RVs.nil⟩
    | cons k ks => cases h
  | cons f fs ih =>
    intro off ks h ht
    simp only [chkFs, Bool.and_eq_true] at h
    obtain ⟨h1, h2, h3⟩ := h
    have e := Nat.eq_of_beq_eq_true h1
    obtain ⟨d1, q1, q2⟩ := hF _ _ _ h2 (ht f (by simp))
    obtain ⟨d2, m, q3, q4⟩ := ih _ _ h3 (fun g hg => ht g (by simp [hg]))
    refine ⟨d1 ++ d2, P.cellsOf f.type + m, ?_, ?_⟩
    · have := q1.app q3
      rwa [List.take_append_drop] at this
    · rw [List.take_add, List.drop_drop]
      rw [e] at q2
      exact q2.append q4

theorem some_map {α β : Type} {o : Option α} {f : α → β} {y : β} (h : o.map f = some y) : ∃ x, o = some x := by
  cases o with
  | none => cases h
  | some x => exact ⟨x, rfl⟩
theorem trod_float {fuel : Nat} {t : TypeId} {cs : List Value} {x : DataW H × List MemPlace} (ht : P.underlying t = some (.float .f64)) (h : DataW.trod en P w base spare held fuel t cs = some x) :
    ∃ b, cs = [.float .f64 b] ∧ b < 2 ^ 64 := by
  cases fuel with
  | zero => simp [DataW.trod] at h
  | succ n =>
    unfold DataW.trod at h
    rw [ht] at h
    split at h <;> simp_all
    rename_i b hk0
    subst hk0
    obtain ⟨⟨rfl, hw⟩, _⟩ := h
    exact of_decide_eq_true (show decide (b < 2 ^ 64) = true from hw)
theorem trod_rv : ∀ (n fuel : Nat) (t : TypeId) (cs : List Value) (x : DataW H × List MemPlace), DataW.trod en P w base spare held fuel t cs = some x →
    ∀ (ks : List CK), chkT P n t ks = true → ∃ ds, CKs ks ds ∧ RVs w (AllG w) (fun _ => none) ren cs ds := by
  intro n
  induction n with
  | zero => intro fuel t cs x h ks hc; cases hc
  | succ n ih =>
    intro fuel t cs x h ks hc
    unfold chkT at hc
    split at hc
    · rename_i hu
      split at hc
      · obtain rfl := ckEq_eq hc
        obtain ⟨b, rfl, _⟩ := DataW.trod_bool hu h
        exact ⟨[.bool b], .cons (.bool _) .nil, .cons rfl (.bool _) .nil⟩
      · cases hc
    · rename_i q hu
      split at hc
      · obtain rfl := ckEq_eq hc
        obtain ⟨b, rfl, _, hw⟩ := DataW.trod_int hu h
        simp only [Lit.wf, Bool.and_eq_true, decide_eq_true_eq] at hw
        exact ⟨[.int q b], .cons (.int hw.1 hw.2) .nil, .cons rfl (.int _ _) .nil⟩
      · cases hc
    · rename_i hu
      split at hc
      · obtain rfl := ckEq_eq hc
        obtain ⟨b, rfl, hw⟩ := trod_float hu h
        exact ⟨[.float b], .cons (.float hw) .nil, .cons rfl (.float (.inl rfl)) .nil⟩
      · cases hc
    · rename_i hu
      split at hc
      · obtain rfl := ckEq_eq hc
        obtain ⟨b, rfl, _, hw⟩ := DataW.trod_string hu h
        exact ⟨[.str b], .cons (.str hw) .nil, .cons rfl (.str _) .nil⟩
      · cases hc
    · rename_i e hu
      split at hc
      · rename_i τ
        simp only [Bool.and_eq_true] at hc
        obtain ⟨hc1, hc2⟩ := hc
        have hes := Nat.eq_of_beq_eq_true hc1
        rcases DataW.trod_slice hu h with ⟨rfl, _⟩ | ⟨a, len, cap, elems, rest, m, _, rfl, _, hba, hlc, hcm, hel, hall, _⟩
        · exact ⟨[.sl τ []], .cons (.sl (Nat.zero_le _) (by simp)) .nil, .cons rfl (.sl (fun _ => []) rfl (Nat.le_refl _) (by simp) (by simp) (by simp) (by simp)) .nil⟩
        · have key : ∀ i, ∃ (x : El τ) (vs : List Value), i < len → (∀ (j : Nat) k d, (ckOf τ)[j]? = some k → (enc τ x)[j]? = some d → CKd k d) ∧ RVs w (AllG w) (fun _ => none) ren vs (enc τ x) ∧
              (∀ j v, vs[j]? = some v → w.cell? ((a.add (i * τ.esz)).add j) = some v) := by
            intro i
            by_cases hi : i < len
            · have hie : i < elems.length := by rw [hel]; exact hi
              have hb := hall i hi
              rw [List.getElem?_eq_getElem hie] at hb
              obtain ⟨cs', q1, q2⟩ := Option.bind_eq_some_iff.1 hb
              obtain ⟨ds, g1, g2⟩ := ih _ _ _ _ q2 _ hc2
              obtain ⟨x, rfl⟩ := g1.dec
              refine ⟨x, cs', fun _ => ⟨g1.get, g2, fun j v hj => ?_⟩⟩
              obtain ⟨_, q3, q4⟩ := World.cells?_some q1
              have hlt := (List.getElem?_eq_some_iff.1 hj).1
              rw [hes] at q4 q3
              rw [q4 j (by omega)]; exact hj
            · obtain ⟨z⟩ := elNe τ
              exact ⟨z, [], fun h => absurd h hi⟩
          let xs : Nat → El τ := fun i => (key i).choose
          let vals : Nat → List Value := fun i => (key i).choose_spec.choose
          have hk : ∀ i, i < len → (∀ (j : Nat) k d, (ckOf τ)[j]? = some k → (enc τ (xs i))[j]? = some d → CKd k d) ∧ RVs w (AllG w) (fun _ => none) ren (vals i) (enc τ (xs i)) ∧
              (∀ j v, (vals i)[j]? = some v → w.cell? ((a.add (i * τ.esz)).add j) = some v) := fun i => (key i).choose_spec.choose_spec
          have hget : ∀ (i : Nat) x, ((List.range len).map xs)[i]? = some x → i < len ∧ x = xs i := by
            intro i x hi
            rw [List.getElem?_map] at hi
            cases hr : (List.range len)[i]? with
            | none => rw [hr] at hi; cases hi
            | some m =>
              rw [hr] at hi
              obtain ⟨h1, h2⟩ := List.getElem?_eq_some_iff.1 hr
              simp at h1 h2 hi
              subst h2; exact ⟨h1, hi.symm⟩
          have hsp : 0 < len → ∃ b f, a = ⟨b, f, none⟩ := by
            intro h0
            obtain ⟨_, g2, g3⟩ := hk 0 h0
            have hl0 : 0 < (vals 0).length := by rw [g2.1, enc_len]; exact esz_pos τ
            have := g3 0 _ (List.getElem?_eq_getElem hl0)
            rw [Nat.zero_mul, Addr.add_zero, Addr.add_zero] at this
            unfold World.cell? at this
            split at this
            · cases hs : a.spot with
              | none => exact ⟨a.block, a.off, by cases a; simp_all⟩
              | some z => simp [hs] at this
            · cases this
          refine ⟨[.sl τ ((List.range len).map xs)], .cons (.sl (by simp; omega) ?_) .nil, .cons rfl (.sl vals (by simp) hlc ?_ ?_ ?_ ?_) .nil⟩
          · intro x hx
            obtain ⟨i, hi, rfl⟩ := List.mem_map.1 hx
            exact (hk i (List.mem_range.1 hi)).1
          · intro i x hi; obtain ⟨h1, rfl⟩ := hget i x hi; exact (hk i h1).2.1.1
          · intro i x hi; obtain ⟨h1, rfl⟩ := hget i x hi; exact (hk i h1).2.1.2.1
          · intro i x hi; obtain ⟨h1, rfl⟩ := hget i x hi; exact (hk i h1).2.1.2.2
          · intro i x hi j v hj
            obtain ⟨h1, rfl⟩ := hget i x hi
            obtain ⟨b, f, rfl⟩ := hsp (by omega)
            have := (hk i h1).2.2 j v hj
            rw [Addr.add_none, Addr.add_none] at this
            refine ⟨b, f, rfl, ⟨?_, trivial⟩, this⟩
            unfold World.cell? at this
            split at this
            · rename_i hq; exact (Array.getElem?_eq_some_iff.1 hq).1
            · cases this
      · cases hc
    · rename_i fs hu
      simp only [Bool.and_eq_true] at hc
      obtain ⟨hc1, hc2⟩ := hc
      have hlen := Nat.eq_of_beq_eq_true hc1
      obtain ⟨xs, m, rfl, _, hcl, hxl, hall⟩ := DataW.trod_struct hu h
      obtain ⟨ds, l, g1, g2⟩ := fields_rv (ren := ren) (T := fun t cs => ∃ x, DataW.trod en P w base spare held m t cs = some x) (fun t ks cs h1 ⟨x, h2⟩ => ih _ _ _ _ h2 _ h1) cs fs.toList 0 ks hc2 (fun f hf => by
        obtain ⟨i, hi⟩ := List.getElem?_of_mem hf
        have hlt := (List.getElem?_eq_some_iff.1 hi).1
        refine ⟨_, (hall i f (by simpa using hi)).trans (List.getElem?_eq_getElem (by rw [hxl]; simpa using hlt))⟩)
      refine ⟨ds, g1, ?_⟩
      have h1 := g1.len
      have h2 := g2.1
      rw [List.drop_zero] at g2 h2
      rw [List.length_take] at h2
      rwa [List.take_of_length_le (by omega)] at g2
    · cases hc
end
end Bz
