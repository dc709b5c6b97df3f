/- The law bailiff/bailifflaw14.ChainNames answers true at every input that its row lets in, and changes nothing that it was given. -/
import Derived.Test.YtjlgkjmbndmkjabRows
import Derived.Test.YtjlgkjmbndmkjabChkLaw
import Derived.Test.YtjlgkjmbndmkjabEntry2
import Derived.Test.YtjlgkjmbndmkjabLawPure
import Derived.WalkKit
import Derived.ProofKit
import Derived.OpenShut
import Derived.ShutString
import Derived.ChangeOld
import Derived.Below
import Derived.Carry
import Derived.SizedLaws
set_option linter.all false
namespace Go.Proofs.Ytjlgkjmbndmkjab.chainNames
open Go.ChangeShapes Go.WideShapes Go.ChangeAt Go.RowKit
set_option linter.unusedVariables false
theorem own : ownKnob Try.prog.godebug = none := by kernel_rfl
theorem laidOut : laidOutB Try.prog = true := by kernel_rfl
set_option maxRecDepth 100000 in
theorem lifted (os : Os) (started : os.Started) (H : Type) (enc : TypeId × Value → H) :
    ReturnsInHanded {} Try.checked os 6 .any (Rows.chainNamesSpec.pre6 enc Try.prog Try.f6 Rows.chainNamesRow.domain false) (Rows.chainNamesSpec.post enc Try.prog Try.f6 false true false false) := by
  refine returnsInHanded_of_change_sized (C := Try.checked) own started (by kernel_rfl) Try.func6
    (ChangeSpec.witness6 (enc := enc) (C := Try.checked) false ⟨#[], #[], []⟩ 12 (by kernel_rfl) (by kernel_rfl) (by kernel_rfl) (by kernel_rfl)) ?_
  intro W base args ds gs before hval0 hW hcnd hsz0 _
  have hval : ∀ (j : Nat) t v, Try.f6.params[j]? = some t → args[j]? = some v → Value.okWide Try.prog W .any base t v := hval0
  have hW' := hW
  obtain ⟨p, q, hA0, hV, rfl, hfz, hnd⟩ := hW
  have hA : DataW.TrodAll enc Try.prog W 0 (fun _ => true) true Try.f6.params.toList args.toList ds p := hA0
  have hpar : Try.f6.params = #[] := by kernel_rfl
  rw [hpar] at hA hval
  obtain ⟨hargs, rfl, rfl⟩ := trodAll_nil hA
  obtain rfl : args = #[] := by cases args; simp_all
  obtain ⟨rfl, rfl⟩ := trodVars_none hV
  refine (Bz.law_calls (D := Bz.D) (ren := Bz.ren) (idx := 18) (g := 6) (fn := Try.f6) Bz.mixed Bz.hall (by kernel_rfl) Try.func6 rfl (by kernel_rfl) Bz.lawChainNames (vals := []) Bz.PRV.nil).mono fun e W' ⟨he, bel⟩ => ?_
  subst he
  exact ⟨_, rfl, _, _, _, [], _, [], hW', trodAll_mk1 (shut_bool (by kernel_rfl) _), trodAll_mk0, rfl, bel.frame _, fun h => by cases h⟩
theorem over : Rows.chainNamesRow.holds Try.pinned (OpenSpec.ofChange Rows.chainNamesSpec) :=
  OpenClaim.holds_of_wide 6 Try.f6 rfl rfl rfl rfl rfl rfl rfl ⟨rfl, rfl, rfl, rfl, rfl⟩ rfl rfl rfl rfl rfl (by kernel_rfl) Try.func6 (by kernel_rfl)
    (of_decide_eq_true (by kernel_rfl)) (by unfold Func.isWrapper; first | (rw [if_pos (by decide +kernel)]; kernel_rfl) | (rw [if_neg (by decide +kernel)]; exact ⟨rfl, rfl⟩))
    (fun os started H enc _ => lifted os started H enc)
theorem proved : Rows.ChainNamesSaid := over
#print axioms proved
end Go.Proofs.Ytjlgkjmbndmkjab.chainNames
namespace Go.Proofs.Ytjlgkjmbndmkjab
/-- The row, under a short name, for the claim. -/
theorem chainNames_holds : Rows.ChainNamesSaid := chainNames.proved
end Go.Proofs.Ytjlgkjmbndmkjab
