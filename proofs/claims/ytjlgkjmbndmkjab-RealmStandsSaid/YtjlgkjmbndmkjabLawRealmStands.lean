/- The law bailiff/bailifflaw24.RealmStands answers true at every input that its row lets in, and changes nothing that it was given. -/
import Derived.Test.YtjlgkjmbndmkjabRows
import Derived.Test.YtjlgkjmbndmkjabChkLaw
import Derived.Test.YtjlgkjmbndmkjabEntry2
import Derived.Test.YtjlgkjmbndmkjabLawPure
import Derived.WalkKit
import Derived.ProofKit
import Derived.OpenShut
import Derived.ShutString
import Derived.ChangeOld
import Derived.Below
import Derived.Carry
import Derived.SizedLaws
set_option linter.all false
namespace Go.Proofs.Ytjlgkjmbndmkjab.realmStands
open Go.ChangeShapes Go.WideShapes Go.ChangeAt Go.RowKit
set_option linter.unusedVariables false
theorem own : ownKnob Try.prog.godebug = none := by kernel_rfl
theorem laidOut : laidOutB Try.prog = true := by kernel_rfl
set_option maxRecDepth 100000 in
theorem lifted (os : Os) (started : os.Started) (H : Type) (enc : TypeId × Value → H) :
    ReturnsInHanded {} Try.checked os 9 .any (Rows.realmStandsSpec.pre6 enc Try.prog Try.f9 Rows.realmStandsRow.domain false) (Rows.realmStandsSpec.post enc Try.prog Try.f9 false true false false) := by
  refine returnsInHanded_of_change_sized (C := Try.checked) own started (by kernel_rfl) Try.func9
    (ChangeSpec.witness6 (enc := enc) (C := Try.checked) false ⟨#[], #[.int .i64 0], []⟩ 12 (by kernel_rfl) (by kernel_rfl) (by kernel_rfl) (by kernel_rfl)) ?_
  intro W base args ds gs before hval0 hW hcnd hsz0 _
  have hval : ∀ (j : Nat) t v, Try.f9.params[j]? = some t → args[j]? = some v → Value.okWide Try.prog W .any base t v := hval0
  have hW' := hW
  obtain ⟨p, q, hA0, hV, rfl, hfz, hnd⟩ := hW
  have hA : DataW.TrodAll enc Try.prog W 0 (fun _ => true) true Try.f9.params.toList args.toList ds p := hA0
  have hpar : Try.f9.params = #[3] := by kernel_rfl
  rw [hpar] at hA hval
  obtain ⟨v0, vs0, d0, ds0, p0, q0, hargs, rfl, rfl, h0, r0⟩ := trodAll_cons hA
  obtain ⟨rfl, rfl, rfl⟩ := trodAll_nil r0
  obtain rfl : args = #[v0] := by cases args; simp_all
  obtain ⟨rfl, rfl⟩ := trodVars_none hV
  have lt0 : ∀ x ∈ p0, x.block < W.heap.size := by obtain ⟨m, hm⟩ := h0; exact DataW.trod_lt m _ _ _ hm
  have e0 := Bz.param_rv (ren := Bz.ren) (n := 12) (pk := (.cell (.int .i64))) (by kernel_rfl) (hval 0 3 v0 rfl rfl) h0
  refine (Bz.law_calls (D := Bz.D) (ren := Bz.ren) (idx := 26) (g := 9) (fn := Try.f9) Bz.mixed Bz.hall (by kernel_rfl) Try.func9 rfl (by kernel_rfl) Bz.lawRealmStands (vals := [v0]) (Bz.PRV.cons e0 Bz.PRV.nil)).mono fun e W' ⟨he, bel⟩ => ?_
  subst he
  exact ⟨_, rfl, _, _, _, [], _, [], hW', trodAll_mk1 (shut_bool (by kernel_rfl) _), (trodAll_cons_mk (Below.trod laidOut (by kernel_rfl) (of_decide_eq_true (by kernel_rfl)) h0 bel lt0) trodAll_mk0), rfl, bel.frame _, fun h => by cases h⟩
theorem over : Rows.realmStandsRow.holds Try.pinned (OpenSpec.ofChange Rows.realmStandsSpec) :=
  OpenClaim.holds_of_wide 9 Try.f9 rfl rfl rfl rfl rfl rfl rfl ⟨rfl, rfl, rfl, rfl, rfl⟩ rfl rfl rfl rfl rfl (by kernel_rfl) Try.func9 (by kernel_rfl)
    (of_decide_eq_true (by kernel_rfl)) (by unfold Func.isWrapper; first | (rw [if_pos (by decide +kernel)]; kernel_rfl) | (rw [if_neg (by decide +kernel)]; exact ⟨rfl, rfl⟩))
    (fun os started H enc _ => lifted os started H enc)
theorem proved : Rows.RealmStandsSaid := over
#print axioms proved
end Go.Proofs.Ytjlgkjmbndmkjab.realmStands
namespace Go.Proofs.Ytjlgkjmbndmkjab
/-- The row, under a short name, for the claim. -/
theorem realmStands_holds : Rows.RealmStandsSaid := realmStands.proved
end Go.Proofs.Ytjlgkjmbndmkjab
