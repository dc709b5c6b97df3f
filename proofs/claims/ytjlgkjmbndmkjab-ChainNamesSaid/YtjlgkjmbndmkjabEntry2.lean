/- A law: from the run over plain data to the call. -/
import Derived.Test.YtjlgkjmbndmkjabEntry1
set_option linter.all false
set_option linter.unusedVariables false
namespace Bz
open Go Go.RowKit Go.ChangeShapes Go.WideShapes

inductive PK where
  | cell (k : CK)
  | agg (ks : List CK)
def PKd : PK → DV → Prop
  | .cell k, d => CKd k d
  | .agg ks, d => ∃ ds, d = .agg ds ∧ CKs ks ds
inductive PKds : List PK → List DV → Prop
  | nil : PKds [] []
  | cons {k : PK} {d : DV} {ks : List PK} {ds : List DV} : PKd k d → PKds ks ds → PKds (k :: ks) (d :: ds)
def chkP (P : Program) (n : Nat) (t : TypeId) : PK → Bool
  | .cell k => (match P.underlying t with | some .bool | some (.int _) | some .string | some (.slice _) => true | _ => false) && chkT P n t [k]
  | .agg ks => (match P.underlying t with | some (.struct _) => true | _ => false) && chkT P n t ks
section
variable {H : Type} {en : TypeId × Value → H} {P : Program} {w : World} {base : Nat} {spare : Nat → Bool} {held : Bool} {ren : Nat → Option Nat}
theorem cells1 {v : Value} {ds : List DV} {k : CK} (h : CKs [k] ds) (g : RVs w (AllG w) (fun _ => none) ren [v] ds) : ∃ d, CKd k d ∧ RV w (AllG w) (fun _ => none) ren v d := by
  cases h with
  | cons h1 h2 =>
    cases h2
    obtain ⟨u, vs, e, _, g2, _⟩ := g.uncons
    cases e
    exact ⟨_, h1, g2⟩
theorem param_rv {n : Nat} {t : TypeId} {pk : PK} (hc : chkP P n t pk = true) {v : Value} {b0 : Nat} (hval : Value.okWide P w .any b0 t v) {d : DataW H} {ps : List MemPlace} (h : DataW.Trod en P w base spare held t v d ps) :
    ∃ d', PKd pk d' ∧ RV w (AllG w) (fun _ => none) ren v d' := by
  obtain ⟨fuel, hf⟩ := h
  cases pk with
  | cell k =>
    simp only [chkP, Bool.and_eq_true] at hc
    obtain ⟨ds, g1, g2⟩ := trod_rv (ren := ren) n fuel t _ _ hf _ hc.2
    have hc1 := hc.1
    split at hc1
    · rename_i hu
      obtain ⟨b, rfl, _⟩ := open_bool hu hval ⟨fuel, hf⟩
      exact cells1 g1 g2
    · rename_i q hu
      obtain ⟨b, rfl, _⟩ := open_int hu hval ⟨fuel, hf⟩
      exact cells1 g1 g2
    · rename_i hu
      obtain ⟨b, rfl, _⟩ := Go.ChangeMaps.open_string hu hval ⟨fuel, hf⟩
      exact cells1 g1 g2
    · rename_i e hu
      obtain ⟨a, l, c, rfl⟩ := okWide_slice hu hval
      exact cells1 g1 g2
    · cases hc1
  | agg ks =>
    simp only [chkP, Bool.and_eq_true] at hc
    obtain ⟨ds, g1, g2⟩ := trod_rv (ren := ren) n fuel t _ _ hf _ hc.2
    have hc1 := hc.1
    split at hc1
    · rename_i fs hu
      have : ∃ cs, v = .agg cs := by
        unfold Value.okWide at hval
        rw [hu] at hval
        obtain ⟨cs, e, _⟩ := hval
        exact ⟨cs, e⟩
      obtain ⟨cs, rfl⟩ := this
      exact ⟨.agg ds, ⟨ds, rfl, g1⟩, .agg g2.1 g2.2.1 g2.2.2⟩
    · cases hc1
/-- Arguments as plain values. -/
def PRV (w : World) (ren : Nat → Option Nat) (vals : List Value) (pks : List PK) : Prop := ∃ ds, PKds pks ds ∧ RVL w (AllG w) ren vals ds
theorem PRV.nil : PRV w ren [] [] := ⟨[], .nil, rfl, by simp⟩
theorem PRV.cons {v : Value} {vs : List Value} {pk : PK} {pks : List PK} (h : ∃ d', PKd pk d' ∧ RV w (AllG w) (fun _ => none) ren v d') (k : PRV w ren vs pks) : PRV w ren (v :: vs) (pk :: pks) := by
  obtain ⟨d, h1, h2⟩ := h
  obtain ⟨ds, k1, k2⟩ := k
  refine ⟨d :: ds, .cons h1 k1, by simp [k2.1], fun j u e hj he => ?_⟩
  cases j with
  | zero => simp at hj he; subst hj; subst he; exact h2
  | succ j => simp at hj he; exact k2.2 j u e hj he

theorem law_calls {D : Nat → Option Fn} (hm : P.follows .mixedOrders = true) (hall : ∀ f g, ren f = some g → ∀ x, D f = some x → FnOk P ren g x) {idx g : Nat} (hren : ren idx = some g) {fn : Func} {c : Code}
    (hg : P.funcs[g]? = some fn) (hb : fn.body = some c) (hname : (fn.name == "runtime.NumGoroutine") = false) {pks : List PK} (law : ∀ ds, PKds pks ds → ∃ n, runF D n idx ds = some (.bool true)) {vals : List Value} (hv : PRV w ren vals pks) :
    Calls P g vals.toArray w fun e w' => e = .returned (.bool true) ∧ Below w.heap.size w w' := by
  obtain ⟨ds, h1, h2⟩ := hv
  obtain ⟨n, hn⟩ := law ds h1
  have hd := fine_all hm hall n idx g ds _ hn hren vals w (fun _ => True) h2
  have hname' : fn.name ≠ "runtime.NumGoroutine" := by simpa using hname
  rcases hd with ⟨_, hcalls⟩ | ⟨v, w', hrun, _⟩
  · refine hcalls.mono ?_
    rintro e w' ⟨v, rfl, hB, L, _, _, hR⟩
    have := (hR.pureC (φ2 := fun _ => none) (G2 := fun _ => True) ⟨by simp, by simp, by simp⟩ (fun _ _ => trivial)).bool_inv
    subst this
    exact ⟨rfl, hB⟩
  · simp [callFunc, hg, hname', hb] at hrun
end
end Bz
