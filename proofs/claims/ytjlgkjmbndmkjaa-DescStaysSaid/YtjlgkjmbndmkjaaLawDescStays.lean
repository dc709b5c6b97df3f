/- The law bailiff/bailifflaw09.DescStays answers true at every input that its row lets in, and changes nothing that it was given. -/
import Derived.Test.YtjlgkjmbndmkjaaRows
import Derived.Test.YtjlgkjmbndmkjaaChkLaw
import Derived.Test.YtjlgkjmbndmkjaaEntry2
import Derived.Test.YtjlgkjmbndmkjaaLawPure
import Derived.WalkKit
import Derived.ProofKit
import Derived.OpenShut
import Derived.ShutString
import Derived.ChangeOld
import Derived.Below
import Derived.Carry
import Derived.SizedLaws
set_option linter.all false
namespace Go.Proofs.Ytjlgkjmbndmkjaa.descStays
open Go.ChangeShapes Go.WideShapes Go.ChangeAt Go.RowKit
set_option linter.unusedVariables false
theorem own : ownKnob Try.prog.godebug = none := by kernel_rfl
theorem laidOut : laidOutB Try.prog = true := by kernel_rfl
set_option maxRecDepth 100000 in
theorem lifted (os : Os) (started : os.Started) (H : Type) (enc : TypeId × Value → H) :
    ReturnsInHanded {} Try.checked os 7 .any (Rows.descStaysSpec.pre6 enc Try.prog Try.f7 Rows.descStaysRow.domain false) (Rows.descStaysSpec.post enc Try.prog Try.f7 false true false false) := by
  refine returnsInHanded_of_change_sized (C := Try.checked) own started (by kernel_rfl) Try.func7
    (ChangeSpec.witness6 (enc := enc) (C := Try.checked) false ⟨#[], #[.bool false, .agg #[.int .u8 0, .int .u8 0, .float .f64 0, .string ByteArray.empty, .int .i64 0, .int .u8 0, .float .f64 0, .string ByteArray.empty, .int .i64 0, .int .u8 0, .float .f64 0, .string ByteArray.empty, .int .i64 0, .bool false, .bool false, .bool false], .bool false, .agg #[.int .u8 0, .int .u8 0, .float .f64 0, .string ByteArray.empty, .int .i64 0, .int .u8 0, .float .f64 0, .string ByteArray.empty, .int .i64 0, .int .u8 0, .float .f64 0, .string ByteArray.empty, .int .i64 0, .bool false, .bool false, .bool false]], []⟩ 12 (by kernel_rfl) (by kernel_rfl) (by kernel_rfl) (by kernel_rfl)) ?_
  intro W base args ds gs before hval0 hW hcnd hsz0 _
  have hval : ∀ (j : Nat) t v, Try.f7.params[j]? = some t → args[j]? = some v → Value.okWide Try.prog W .any base t v := hval0
  have hW' := hW
  obtain ⟨p, q, hA0, hV, rfl, hfz, hnd⟩ := hW
  have hA : DataW.TrodAll enc Try.prog W 0 (fun _ => true) true Try.f7.params.toList args.toList ds p := hA0
  have hpar : Try.f7.params = #[4, 32, 4, 32] := by kernel_rfl
  rw [hpar] at hA hval
  obtain ⟨v0, vs0, d0, ds0, p0, q0, hargs, rfl, rfl, h0, r0⟩ := trodAll_cons hA
  obtain ⟨v1, vs1, d1, ds1, p1, q1, rfl, rfl, rfl, h1, r1⟩ := trodAll_cons r0
  obtain ⟨v2, vs2, d2, ds2, p2, q2, rfl, rfl, rfl, h2, r2⟩ := trodAll_cons r1
  obtain ⟨v3, vs3, d3, ds3, p3, q3, rfl, rfl, rfl, h3, r3⟩ := trodAll_cons r2
  obtain ⟨rfl, rfl, rfl⟩ := trodAll_nil r3
  obtain rfl : args = #[v0, v1, v2, v3] := by cases args; simp_all
  obtain ⟨rfl, rfl⟩ := trodVars_none hV
  have lt0 : ∀ x ∈ p0, x.block < W.heap.size := by obtain ⟨m, hm⟩ := h0; exact DataW.trod_lt m _ _ _ hm
  have e0 := Bz.param_rv (ren := Bz.ren) (n := 12) (pk := (.cell .bool)) (by kernel_rfl) (hval 0 4 v0 rfl rfl) h0
  have lt1 : ∀ x ∈ p1, x.block < W.heap.size := by obtain ⟨m, hm⟩ := h1; exact DataW.trod_lt m _ _ _ hm
  have e1 := Bz.param_rv (ren := Bz.ren) (n := 12) (pk := (.agg Bz.ckDsc)) (by kernel_rfl) (hval 1 32 v1 rfl rfl) h1
  have lt2 : ∀ x ∈ p2, x.block < W.heap.size := by obtain ⟨m, hm⟩ := h2; exact DataW.trod_lt m _ _ _ hm
  have e2 := Bz.param_rv (ren := Bz.ren) (n := 12) (pk := (.cell .bool)) (by kernel_rfl) (hval 2 4 v2 rfl rfl) h2
  have lt3 : ∀ x ∈ p3, x.block < W.heap.size := by obtain ⟨m, hm⟩ := h3; exact DataW.trod_lt m _ _ _ hm
  have e3 := Bz.param_rv (ren := Bz.ren) (n := 12) (pk := (.agg Bz.ckDsc)) (by kernel_rfl) (hval 3 32 v3 rfl rfl) h3
  refine (Bz.law_calls (D := Bz.D) (ren := Bz.ren) (idx := 0) (g := 7) (fn := Try.f7) Bz.mixed Bz.hall (by kernel_rfl) Try.func7 rfl (by kernel_rfl) Bz.lawDescStays (vals := [v0, v1, v2, v3]) (Bz.PRV.cons e0 (Bz.PRV.cons e1 (Bz.PRV.cons e2 (Bz.PRV.cons e3 Bz.PRV.nil))))).mono fun e W' ⟨he, bel⟩ => ?_
  subst he
  exact ⟨_, rfl, _, _, _, [], _, [], hW', trodAll_mk1 (shut_bool (by kernel_rfl) _), (trodAll_cons_mk (Below.trod laidOut (by kernel_rfl) (of_decide_eq_true (by kernel_rfl)) h0 bel lt0) (trodAll_cons_mk (Below.trod laidOut (by kernel_rfl) (of_decide_eq_true (by kernel_rfl)) h1 bel lt1) (trodAll_cons_mk (Below.trod laidOut (by kernel_rfl) (of_decide_eq_true (by kernel_rfl)) h2 bel lt2) (trodAll_cons_mk (Below.trod laidOut (by kernel_rfl) (of_decide_eq_true (by kernel_rfl)) h3 bel lt3) trodAll_mk0)))), rfl, bel.frame _, fun h => by cases h⟩
theorem over : Rows.descStaysRow.holds Try.pinned (OpenSpec.ofChange Rows.descStaysSpec) :=
  OpenClaim.holds_of_wide 7 Try.f7 rfl rfl rfl rfl rfl rfl rfl ⟨rfl, rfl, rfl, rfl, rfl⟩ rfl rfl rfl rfl rfl (by kernel_rfl) Try.func7 (by kernel_rfl)
    (of_decide_eq_true (by kernel_rfl)) (by unfold Func.isWrapper; first | (rw [if_pos (by decide +kernel)]; kernel_rfl) | (rw [if_neg (by decide +kernel)]; exact ⟨rfl, rfl⟩))
    (fun os started H enc _ => lifted os started H enc)
theorem proved : Rows.DescStaysSaid := over
#print axioms proved
end Go.Proofs.Ytjlgkjmbndmkjaa.descStays
namespace Go.Proofs.Ytjlgkjmbndmkjaa
/-- The row, under a short name, for the claim. -/
theorem descStays_holds : Rows.DescStaysSaid := descStays.proved
end Go.Proofs.Ytjlgkjmbndmkjaa
