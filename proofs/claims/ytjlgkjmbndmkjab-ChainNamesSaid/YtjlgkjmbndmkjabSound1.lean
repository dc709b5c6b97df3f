/- How values of the model stand to plain data. -/
import Derived.Test.YtjlgkjmbndmkjabDev2
import Derived.Laws.Cells
import Derived.Laws.World
import Derived.Laws.Sem
import Derived.Below
set_option linter.all false
namespace Bz
open Go

/-- two bits of a float: the same, or both no number -/
def feq (b b' : Nat) : Prop := b = b' ∨ (isNaN b = true ∧ isNaN b' = true)

/-- The world has these values from an address on, in a block that is let. -/
def Mem (w : World) (G : Nat → Prop) (ad : Option Addr) (o : Nat) (vs : List Value) : Prop :=
  ∀ j v, vs[j]? = some v → ∃ b f, ad = some ⟨b, f, none⟩ ∧ G b ∧ w.cell? ⟨b, f + o + j, none⟩ = some v

def hbase : Value → Option (Nat × Nat)
  | .pointer (some ⟨b, o, none⟩) => some (b, o)
  | .slice (some ⟨b, o, none⟩) _ _ => some (b, o)
  | _ => none

section
variable (w : World) (G : Nat → Prop) (φ : Nat → Option Value) (ren : Nat → Option Nat)
/-- A value of the model is what the plain value says. -/
inductive RV : Value → DV → Prop
  | unk (v : Value) : RV v .unk
  | skp : RV undef .skp
  | bool (b : Bool) : RV (.bool b) (.bool b)
  | int (k : IntKind) (n : Int) : RV (.int k n) (.int k n)
  | float {b b' : Nat} : feq b b' → RV (.float .f64 b') (.float b)
  | str (s : ByteArray) : RV (.string s) (.str s)
  | sl {τ : Ty} {l : List (El τ)} {ad : Option Addr} {len cap : Nat} (vals : Nat → List Value) : len = l.length → len ≤ cap →
      (∀ (i : Nat) (x : El τ), l[i]? = some x → (vals i).length = (enc τ x).length) →
      (∀ (i : Nat) (x : El τ), l[i]? = some x → ∀ v ∈ vals i, v.oneCell' = true) →
      (∀ (i : Nat) (x : El τ), l[i]? = some x → ∀ (j : Nat) (v : Value) (d : DV), (vals i)[j]? = some v → (enc τ x)[j]? = some d → RV v d) →
      (∀ (i : Nat) (x : El τ), l[i]? = some x → Mem w G ad (i * τ.esz) (vals i)) → RV (.slice ad len cap) (.sl τ l)
  | nsl (τ : Ty) (ad : Option Addr) : RV (.slice ad 0 0) (.nsl τ)
  | fsl {τ : Ty} {l : List (El τ)} {ad : Option Addr} : RV (.slice ad l.length l.length) (.sl τ l) → RV (.slice ad l.length l.length) (.fsl τ l)
  | agg {arr : Array Value} {cs : List DV} : arr.toList.length = cs.length → (∀ v ∈ arr.toList, v.oneCell' = true) →
      (∀ (j : Nat) (v : Value) (d : DV), arr.toList[j]? = some v → cs[j]? = some d → RV v d) → RV (.agg arr) (.agg cs)
  | arr {arr : Array Value} {τ : Ty} {l : List (El τ)} : arr.toList.length = (l.flatMap (enc τ)).length → (∀ v ∈ arr.toList, v.oneCell' = true) →
      (∀ (j : Nat) (v : Value) (d : DV), arr.toList[j]? = some v → (l.flatMap (enc τ))[j]? = some d → RV v d) → RV (.agg arr) (.arr τ l)
  | tup {arr : Array Value} {cs : List DV} : arr.toList.length = cs.length →
      (∀ (j : Nat) (v : Value) (d : DV), arr.toList[j]? = some v → cs[j]? = some d → RV v d) → RV (.tuple arr) (.tup cs)
  | imm {ad : Addr} {cs : List DV} (vs : List Value) : vs.length = cs.length → (∀ v ∈ vs, v.oneCell' = true) →
      (∀ (j : Nat) (v : Value) (d : DV), vs[j]? = some v → cs[j]? = some d → RV v d) → Mem w G (some ad) 0 vs → RV (.pointer (some ad)) (.imm cs)
  | loc {n o r b : Nat} {h : Value} : φ n = some h → hbase h = some (r, b) → RV (.pointer (some ⟨r, b + o, none⟩)) (.loc n o)
  | lel {n e o r b : Nat} {i : Int} {h : Value} : φ n = some h → hbase h = some (r, b) → RV (.pointer (some ⟨r, b + (i.toNat * e + o), none⟩)) (.lel n e i o)
  | lsl {n : Nat} {h : Value} : φ n = some h → h.oneCell' = true → RV h (.lsl n)
  | fn {f g : Nat} {arr : Array Value} {cs : List DV} : ren f = some g → arr.toList.length = cs.length →
      (∀ (j : Nat) (v : Value) (d : DV), arr.toList[j]? = some v → cs[j]? = some d → RV v d) → RV (.func (.func g) #[] arr) (.fn f cs)

/-- Lists of cells. -/
def RVs (vs : List Value) (cs : List DV) : Prop :=
  vs.length = cs.length ∧ (∀ v ∈ vs, v.oneCell' = true) ∧ ∀ (j : Nat) (v : Value) (d : DV), vs[j]? = some v → cs[j]? = some d → RV w G φ ren v d
end

theorem Mem.mono {w w' : World} {G G' : Nat → Prop} {ad : Option Addr} {o : Nat} {vs : List Value} (h : Mem w G ad o vs)
    (hG : ∀ r, G r → G' r) (hc : ∀ a : Addr, G a.block → w'.cell? a = w.cell? a) : Mem w' G' ad o vs := by
  intro j v hj
  obtain ⟨b, f, e, g, c⟩ := h j v hj
  exact ⟨b, f, e, hG _ g, by rw [hc _ g]; exact c⟩

theorem all0_enc (f : Nat → Bool) (τ : Ty) (x : El τ) : ∀ d ∈ enc τ x, d.all0 f = true := by
  cases τ <;> simp [enc, Prp.enc, Obj.enc, Seen.enc, Out.enc, Dsc.enc, DV.all0]

/-- a cell: nothing in it has parts, but a function's -/
def DV.flat : DV → Bool
  | .agg _ | .arr .. | .tup _ => false
  | _ => true

theorem flat_enc (τ : Ty) (x : El τ) : ∀ d ∈ enc τ x, d.flat = true := by
  cases τ <;> simp [enc, Prp.enc, Obj.enc, Seen.enc, Out.enc, Dsc.enc, DV.flat]

theorem enc_len (τ : Ty) (x : El τ) : (enc τ x).length = τ.esz := by
  cases τ <;> simp [enc, Prp.enc, Obj.enc, Seen.enc, Out.enc, Dsc.enc, Ty.esz]

/-- `nm` says of a plain value that the names in it are so; the relation is kept where only other names turn. -/
inductive NamesOk (f : Nat → Prop) : DV → Prop
  | unk : NamesOk f .unk
  | skp : NamesOk f .skp
  | bool (b : Bool) : NamesOk f (.bool b)
  | int (k : IntKind) (n : Int) : NamesOk f (.int k n)
  | float (b : Nat) : NamesOk f (.float b)
  | str (s : ByteArray) : NamesOk f (.str s)
  | sl (τ : Ty) (l : List (El τ)) : NamesOk f (.sl τ l)
  | own (τ : Ty) (l : List (El τ)) : NamesOk f (.own τ l)
  | nsl (τ : Ty) : NamesOk f (.nsl τ)
  | fsl (τ : Ty) (l : List (El τ)) : NamesOk f (.fsl τ l)
  | agg {cs : List DV} : (∀ d ∈ cs, NamesOk f d) → NamesOk f (.agg cs)
  | arr (τ : Ty) (l : List (El τ)) : NamesOk f (.arr τ l)
  | tup {cs : List DV} : (∀ d ∈ cs, NamesOk f d) → NamesOk f (.tup cs)
  | imm {cs : List DV} : (∀ d ∈ cs, NamesOk f d) → NamesOk f (.imm cs)
  | loc {n : Nat} (o : Nat) : f n → NamesOk f (.loc n o)
  | lel {n : Nat} (e : Nat) (i : Int) (o : Nat) : f n → NamesOk f (.lel n e i o)
  | lsl {n : Nat} : f n → NamesOk f (.lsl n)
  | fn (g : Nat) {cs : List DV} : (∀ d ∈ cs, NamesOk f d) → NamesOk f (.fn g cs)

theorem NamesOk.imp {f g : Nat → Prop} (hfg : ∀ n, f n → g n) {d : DV} (h : NamesOk f d) : NamesOk g d := by
  induction h with
  | agg _ ih => exact .agg ih
  | tup _ ih => exact .tup ih
  | imm _ ih => exact .imm ih
  | fn g _ ih => exact .fn g ih
  | loc o h => exact .loc o (hfg _ h)
  | lel e i o h => exact .lel e i o (hfg _ h)
  | lsl h => exact .lsl (hfg _ h)
  | unk => exact .unk
  | skp => exact .skp
  | bool b => exact .bool b
  | int k n => exact .int k n
  | float b => exact .float b
  | str s => exact .str s
  | sl τ l => exact .sl τ l
  | own τ l => exact .own τ l
  | nsl τ => exact .nsl τ
  | fsl τ l => exact .fsl τ l
  | arr τ l => exact .arr τ l

theorem NamesOk.enc (f : Nat → Prop) (τ : Ty) (x : El τ) : ∀ d ∈ enc τ x, NamesOk f d := by
  cases τ <;> (simp only [Bz.enc, Prp.enc, Obj.enc, Seen.enc, Out.enc, Dsc.enc, Val.enc, Key.enc, List.cons_append, List.nil_append, List.mem_cons, List.not_mem_nil, or_false]; intro d hd; rcases hd with rfl | hd) <;>
    first
      | constructor
      | skip
  all_goals (repeat (first | (rcases hd with rfl | hd; · constructor) | (subst hd; constructor)))

theorem RV.mono {w w' : World} {G G' : Nat → Prop} {φ φ' : Nat → Option Value} {ren : Nat → Option Nat}
    (hG : ∀ r, G r → G' r) (hc : ∀ a : Addr, G a.block → w'.cell? a = w.cell? a)
    {v : Value} {d : DV} (h : RV w G φ ren v d) (hn : NamesOk (fun n => φ' n = φ n) d) : RV w' G' φ' ren v d := by
  induction h with
  | unk v => exact .unk v
  | skp => exact .skp
  | bool b => exact .bool b
  | int k n => exact .int k n
  | float h => exact .float h
  | str s => exact .str s
  | @sl τ l ad len cap vals hl hcap h1 h2 h3 h4 ih =>
    exact .sl vals hl hcap h1 h2 (fun i x hi j v d hj hd => ih i x hi j v d hj hd (NamesOk.enc _ τ x d (List.mem_of_getElem? hd)))
      (fun i x hi => (h4 i x hi).mono hG hc)
  | nsl τ ad => exact .nsl τ ad
  | fsl h ih => exact .fsl (ih (.sl _ _))
  | agg h1 h2 h3 ih =>
    cases hn with
    | agg hn => exact .agg h1 h2 fun j v d hj hd => ih j v d hj hd (hn d (List.mem_of_getElem? hd))
  | @arr a τ l h1 h2 h3 ih =>
    refine .arr h1 h2 fun j v d hj hd => ih j v d hj hd ?_
    obtain ⟨x, _, hx⟩ := List.mem_flatMap.1 (List.mem_of_getElem? hd)
    exact NamesOk.enc _ τ x d hx
  | tup h1 h3 ih =>
    cases hn with
    | tup hn => exact .tup h1 fun j v d hj hd => ih j v d hj hd (hn d (List.mem_of_getElem? hd))
  | imm vs h1 h2 h3 h4 ih =>
    cases hn with
    | imm hn => exact .imm vs h1 h2 (fun j v d hj hd => ih j v d hj hd (hn d (List.mem_of_getElem? hd))) (h4.mono hG hc)
  | loc h1 h2 =>
    cases hn with
    | loc o hn => exact .loc (hn.trans h1) h2
  | lel h1 h2 =>
    cases hn with
    | lel e i o hn => exact .lel (hn.trans h1) h2
  | lsl h1 h2 =>
    cases hn with
    | lsl hn => exact .lsl (hn.trans h1) h2
  | fn h0 h1 h3 ih =>
    cases hn with
    | fn g hn => exact .fn h0 h1 fun j v d hj hd => ih j v d hj hd (hn d (List.mem_of_getElem? hd))

theorem RVs.mono {w w' : World} {G G' : Nat → Prop} {φ φ' : Nat → Option Value} {ren : Nat → Option Nat}
    (hG : ∀ r, G r → G' r) (hc : ∀ a : Addr, G a.block → w'.cell? a = w.cell? a)
    {vs : List Value} {cs : List DV} (h : RVs w G φ ren vs cs) (hn : ∀ d ∈ cs, NamesOk (fun n => φ' n = φ n) d) : RVs w' G' φ' ren vs cs :=
  ⟨h.1, h.2.1, fun j v d hj hd => (h.2.2 j v d hj hd).mono hG hc (hn d (List.mem_of_getElem? hd))⟩

section
variable {w : World} {G : Nat → Prop} {φ : Nat → Option Value} {ren : Nat → Option Nat}
theorem RVs.nil : RVs w G φ ren [] [] := ⟨rfl, by simp, by simp⟩
theorem RVs.cons {v : Value} {d : DV} {vs : List Value} {cs : List DV} (h1 : v.oneCell' = true) (h : RV w G φ ren v d) (hs : RVs w G φ ren vs cs) : RVs w G φ ren (v :: vs) (d :: cs) := by
  refine ⟨by simp [hs.1], by simpa using ⟨h1, hs.2.1⟩, fun j v' d' hj hd => ?_⟩
  cases j with
  | zero => simp at hj hd; subst hj; subst hd; exact h
  | succ j => simp at hj hd; exact hs.2.2 j v' d' hj hd
theorem RVs.uncons {vs : List Value} {d : DV} {cs : List DV} (h : RVs w G φ ren vs (d :: cs)) : ∃ v vs', vs = v :: vs' ∧ v.oneCell' = true ∧ RV w G φ ren v d ∧ RVs w G φ ren vs' cs := by
  cases vs with
  | nil => have := h.1; simp at this
  | cons v vs =>
    refine ⟨v, vs, rfl, h.2.1 v (by simp), h.2.2 0 v d rfl rfl, by have := h.1; simpa using this, fun u hu => h.2.1 u (by simp [hu]), fun j v' d' hj hd => h.2.2 (j + 1) v' d' (by simpa using hj) (by simpa using hd)⟩
theorem RVs.unnil {vs : List Value} (h : RVs w G φ ren vs []) : vs = [] := by have := h.1; cases vs <;> simp_all
theorem RVs.append {vs us : List Value} {cs ds : List DV} (h : RVs w G φ ren vs cs) (k : RVs w G φ ren us ds) : RVs w G φ ren (vs ++ us) (cs ++ ds) := by
  induction cs generalizing vs with
  | nil => rw [h.unnil]; simpa using k
  | cons d cs ih => obtain ⟨v, vs', rfl, h1, h2, h3⟩ := h.uncons; exact .cons h1 h2 (ih h3)
theorem RVs.drop {vs : List Value} {cs : List DV} (h : RVs w G φ ren vs cs) (n : Nat) : RVs w G φ ren (vs.drop n) (cs.drop n) := by
  induction n generalizing vs cs with
  | zero => simpa using h
  | succ n ih =>
    cases cs with
    | nil => rw [h.unnil]; simpa using RVs.nil
    | cons d cs => obtain ⟨v, vs', rfl, h1, h2, h3⟩ := h.uncons; simpa using ih h3
theorem RVs.takeN {vs : List Value} {cs ds : List DV} {n : Nat} (h : RVs w G φ ren vs cs) (ht : Bz.takeN n cs = some ds) : RVs w G φ ren (vs.take n) ds := by
  induction n generalizing vs cs ds with
  | zero => simp only [Bz.takeN, Option.some.injEq] at ht; subst ht; simpa using RVs.nil
  | succ n ih =>
    cases cs with
    | nil => simp [Bz.takeN] at ht
    | cons d cs =>
      obtain ⟨v, vs', rfl, h1, h2, h3⟩ := h.uncons
      simp only [Bz.takeN] at ht
      cases hc : Bz.takeN n cs with
      | none => simp [hc] at ht
      | some l => simp only [hc, Option.some.injEq] at ht; subst ht; simpa using RVs.cons h1 h2 (ih h3 hc)
theorem takeN_len {cs ds : List DV} {n : Nat} (ht : Bz.takeN n cs = some ds) : ds.length = n ∧ n ≤ cs.length := by
  induction n generalizing cs ds with
  | zero => simp only [Bz.takeN, Option.some.injEq] at ht; subst ht; simp
  | succ n ih =>
    cases cs with
    | nil => simp [Bz.takeN] at ht
    | cons d cs =>
      simp only [Bz.takeN] at ht
      cases hc : Bz.takeN n cs with
      | none => simp [hc] at ht
      | some l => simp only [hc, Option.some.injEq] at ht; subst ht; have := ih hc; simp; omega
/-- What `over` and `splice` do to the model's cells. -/
theorem RVs.over {vs us : List Value} {cs ds es : List DV} (h : RVs w G φ ren vs cs) (k : RVs w G φ ren us ds) (ho : Bz.over cs ds = some es) :
    us.length ≤ vs.length ∧ RVs w G φ ren (us ++ vs.drop us.length) es := by
  induction ds generalizing vs us cs es with
  | nil => rw [k.unnil]; cases cs <;> (simp only [Bz.over, Option.some.injEq] at ho; subst ho; simpa using h)
  | cons d ds ih =>
    obtain ⟨u, us', rfl, k1, k2, k3⟩ := k.uncons
    cases cs with
    | nil => simp [Bz.over] at ho
    | cons c cs =>
      obtain ⟨v, vs', rfl, h1, h2, h3⟩ := h.uncons
      simp only [Bz.over] at ho
      cases hc : Bz.over cs ds with
      | none => simp [hc] at ho
      | some l =>
        simp only [hc, Option.some.injEq] at ho; subst ho
        have := ih h3 k3 hc
        exact ⟨by simpa using this.1, by simpa using RVs.cons k1 k2 this.2⟩
theorem RVs.splice {vs us : List Value} {cs ds es : List DV} {o : Nat} (h : RVs w G φ ren vs cs) (k : RVs w G φ ren us ds) (ho : Bz.splice cs o ds = some es) :
    o + us.length ≤ vs.length ∧ RVs w G φ ren (vs.take o ++ us ++ vs.drop (o + us.length)) es := by
  induction o generalizing vs cs es with
  | zero =>
    have ho' : Bz.over cs ds = some es := by cases cs <;> simpa [Bz.splice] using ho
    have := h.over k ho'
    simpa using this
  | succ o ih =>
    cases cs with
    | nil => simp [Bz.splice] at ho
    | cons c cs =>
      obtain ⟨v, vs', rfl, h1, h2, h3⟩ := h.uncons
      simp only [Bz.splice] at ho
      cases hc : Bz.splice cs o ds with
      | none => simp [hc] at ho
      | some l =>
        simp only [hc, Option.some.injEq] at ho; subst ho
        have := ih h3 hc
        refine ⟨by simp; omega, ?_⟩
        have e : o + 1 + us.length = (o + us.length) + 1 := by omega
        simpa [e] using RVs.cons h1 h2 this.2
end
end Bz
