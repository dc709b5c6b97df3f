/- The checks: each function's resolved code is the program's. -/
import Derived.Test.YtjlgkjmbndmkjaaSound24
import Derived.Test.YtjlgkjmbndmkjaaPrim1
import Derived.Test.YtjlgkjmbndmkjaaDev4
import Derived.KernelRfl
import Derived.Test.YtjlgkjmbndmkjaaProg
set_option linter.all false
set_option maxRecDepth 100000
namespace Bz
open Go Go.Proofs
def renT : List (Nat × Nat) := (0, 7) :: (4, 32) :: (126, 33) :: (132, 84) :: (135, 92) :: (128, 42) :: (125, 95) :: (129, 93) :: (182, 133) :: (161, 156) :: (213, 173) :: (214, 182) :: (215, 183) :: (210, 116) :: (207, 174) :: (209, 184) :: (208, 188) :: (212, 175) :: (133, 134) :: (180, 157) :: (134, 85) :: (184, 43) :: (186, 96) :: (181, 135) :: (130, 128) :: (124, 35) :: (2, 38) :: (127, 39) :: (183, 71) :: (131, 40) :: (3, 41) :: []
def ren (n : Nat) : Option Nat := look renT n
theorem c0 : FnOk Try.prog ren 7 (.code C.bailifflaw09_DescStays) := .code (fn := Try.f7) Try.func7 rfl (by kernel_rfl) (by kernel_rfl)
theorem h0 : ∀ x, D 0 = some x → FnOk Try.prog ren 7 x := fun x h => by
  have e : D 0 = some (.code C.bailifflaw09_DescStays) := by kernel_rfl
  rw [e] at h; cases h; exact c0
theorem c4 : FnOk Try.prog ren 32 (.code C.bailifflaw09_long) := .code (fn := Try.f32) Try.func32 rfl (by kernel_rfl) (by kernel_rfl)
theorem h4 : ∀ x, D 4 = some x → FnOk Try.prog ren 32 x := fun x h => by
  have e : D 4 = some (.code C.bailifflaw09_long) := by kernel_rfl
  rw [e] at h; cases h; exact c4
theorem c126 : FnOk Try.prog ren 33 (.code C.desc_Compatible) := .code (fn := Try.f33) Try.func33 rfl (by kernel_rfl) (by kernel_rfl)
theorem h126 : ∀ x, D 126 = some x → FnOk Try.prog ren 33 x := fun x h => by
  have e : D 126 = some (.code C.desc_Compatible) := by kernel_rfl
  rw [e] at h; cases h; exact c126
theorem c132 : FnOk Try.prog ren 84 (.code C.desc_asked) := .code (fn := Try.f84) Try.func84 rfl (by kernel_rfl) (by kernel_rfl)
theorem h132 : ∀ x, D 132 = some x → FnOk Try.prog ren 84 x := fun x h => by
  have e : D 132 = some (.code C.desc_asked) := by kernel_rfl
  rw [e] at h; cases h; exact c132
theorem c135 : FnOk Try.prog ren 92 (.code C.desc_whole) := .code (fn := Try.f92) Try.func92 rfl (by kernel_rfl) (by kernel_rfl)
theorem h135 : ∀ x, D 135 = some x → FnOk Try.prog ren 92 x := fun x h => by
  have e : D 135 = some (.code C.desc_whole) := by kernel_rfl
  rw [e] at h; cases h; exact c135
theorem c128 : FnOk Try.prog ren 42 (.code C.desc_IsAccess) := .code (fn := Try.f42) Try.func42 rfl (by kernel_rfl) (by kernel_rfl)
theorem h128 : ∀ x, D 128 = some x → FnOk Try.prog ren 42 x := fun x h => by
  have e : D 128 = some (.code C.desc_IsAccess) := by kernel_rfl
  rw [e] at h; cases h; exact c128
theorem c125 : FnOk Try.prog ren 95 (.code C.desc_Check) := .code (fn := Try.f95) Try.func95 rfl (by kernel_rfl) (by kernel_rfl)
theorem h125 : ∀ x, D 125 = some x → FnOk Try.prog ren 95 x := fun x h => by
  have e : D 125 = some (.code C.desc_Check) := by kernel_rfl
  rw [e] at h; cases h; exact c125
theorem c129 : FnOk Try.prog ren 93 (.code C.desc_IsData) := .code (fn := Try.f93) Try.func93 rfl (by kernel_rfl) (by kernel_rfl)
theorem h129 : ∀ x, D 129 = some x → FnOk Try.prog ren 93 x := fun x h => by
  have e : D 129 = some (.code C.desc_IsData) := by kernel_rfl
  rw [e] at h; cases h; exact c129
theorem c182 : FnOk Try.prog ren 133 (.code C.value_May) := .code (fn := Try.f133) Try.func133 rfl (by kernel_rfl) (by kernel_rfl)
theorem h182 : ∀ x, D 182 = some x → FnOk Try.prog ren 133 x := fun x h => by
  have e : D 182 = some (.code C.value_May) := by kernel_rfl
  rw [e] at h; cases h; exact c182
theorem c161 : FnOk Try.prog ren 156 (.code C.num_May) := .code (fn := Try.f156) Try.func156 rfl (by kernel_rfl) (by kernel_rfl)
theorem h161 : ∀ x, D 161 = some x → FnOk Try.prog ren 156 x := fun x h => by
  have e : D 161 = some (.code C.num_May) := by kernel_rfl
  rw [e] at h; cases h; exact c161
theorem c213 : FnOk Try.prog ren 173 (.code C.math_Trunc) := .code (fn := Try.f173) Try.func173 rfl (by kernel_rfl) (by kernel_rfl)
theorem h213 : ∀ x, D 213 = some x → FnOk Try.prog ren 173 x := fun x h => by
  have e : D 213 = some (.code C.math_Trunc) := by kernel_rfl
  rw [e] at h; cases h; exact c213
theorem c214 : FnOk Try.prog ren 182 (.prim P.trunc) := .prim (trunc_ok (fn := Try.f182) Try.func182 rfl rfl rfl rfl)
theorem h214 : ∀ x, D 214 = some x → FnOk Try.prog ren 182 x := fun x h => by
  have e : D 214 = some (.prim P.trunc) := by kernel_rfl
  rw [e] at h; cases h; exact c214
theorem c215 : FnOk Try.prog ren 183 (.code C.math_trunc) := .code (fn := Try.f183) Try.func183 rfl (by kernel_rfl) (by kernel_rfl)
theorem h215 : ∀ x, D 215 = some x → FnOk Try.prog ren 183 x := fun x h => by
  have e : D 215 = some (.code C.math_trunc) := by kernel_rfl
  rw [e] at h; cases h; exact c215
theorem c210 : FnOk Try.prog ren 116 (.prim P.bits2f) := .prim (bits2f_ok (fn := Try.f116) Try.func116 rfl rfl rfl rfl)
theorem h210 : ∀ x, D 210 = some x → FnOk Try.prog ren 116 x := fun x h => by
  have e : D 210 = some (.prim P.bits2f) := by kernel_rfl
  rw [e] at h; cases h; exact c210
theorem c207 : FnOk Try.prog ren 174 (.code C.math_Abs) := .code (fn := Try.f174) Try.func174 rfl (by kernel_rfl) (by kernel_rfl)
theorem h207 : ∀ x, D 207 = some x → FnOk Try.prog ren 174 x := fun x h => by
  have e : D 207 = some (.code C.math_Abs) := by kernel_rfl
  rw [e] at h; cases h; exact c207
theorem c209 : FnOk Try.prog ren 184 (.prim P.f2bits) := .prim (f2bits_ok (fn := Try.f184) Try.func184 rfl rfl rfl rfl)
theorem h209 : ∀ x, D 209 = some x → FnOk Try.prog ren 184 x := fun x h => by
  have e : D 209 = some (.prim P.f2bits) := by kernel_rfl
  rw [e] at h; cases h; exact c209
theorem c208 : FnOk Try.prog ren 188 (.code C.math_Copysign) := .code (fn := Try.f188) Try.func188 rfl (by kernel_rfl) (by kernel_rfl)
theorem h208 : ∀ x, D 208 = some x → FnOk Try.prog ren 188 x := fun x h => by
  have e : D 208 = some (.code C.math_Copysign) := by kernel_rfl
  rw [e] at h; cases h; exact c208
theorem c212 : FnOk Try.prog ren 175 (.code C.math_Signbit) := .code (fn := Try.f175) Try.func175 rfl (by kernel_rfl) (by kernel_rfl)
theorem h212 : ∀ x, D 212 = some x → FnOk Try.prog ren 175 x := fun x h => by
  have e : D 212 = some (.code C.math_Signbit) := by kernel_rfl
  rw [e] at h; cases h; exact c212
theorem c133 : FnOk Try.prog ren 134 (.code C.desc_called) := .code (fn := Try.f134) Try.func134 rfl (by kernel_rfl) (by kernel_rfl)
theorem h133 : ∀ x, D 133 = some x → FnOk Try.prog ren 134 x := fun x h => by
  have e : D 133 = some (.code C.desc_called) := by kernel_rfl
  rw [e] at h; cases h; exact c133
theorem c180 : FnOk Try.prog ren 157 (.code C.value_Calls) := .code (fn := Try.f157) Try.func157 rfl (by kernel_rfl) (by kernel_rfl)
theorem h180 : ∀ x, D 180 = some x → FnOk Try.prog ren 157 x := fun x h => by
  have e : D 180 = some (.code C.value_Calls) := by kernel_rfl
  rw [e] at h; cases h; exact c180
theorem c134 : FnOk Try.prog ren 85 (.code C.desc_may) := .code (fn := Try.f85) Try.func85 rfl (by kernel_rfl) (by kernel_rfl)
theorem h134 : ∀ x, D 134 = some x → FnOk Try.prog ren 85 x := fun x h => by
  have e : D 134 = some (.code C.desc_may) := by kernel_rfl
  rw [e] at h; cases h; exact c134
theorem c184 : FnOk Try.prog ren 43 (.code C.value_Same) := .code (fn := Try.f43) Try.func43 rfl (by kernel_rfl) (by kernel_rfl)
theorem h184 : ∀ x, D 184 = some x → FnOk Try.prog ren 43 x := fun x h => by
  have e : D 184 = some (.code C.value_Same) := by kernel_rfl
  rw [e] at h; cases h; exact c184
theorem c186 : FnOk Try.prog ren 96 (.code C.value_Strict) := .code (fn := Try.f96) Try.func96 rfl (by kernel_rfl) (by kernel_rfl)
theorem h186 : ∀ x, D 186 = some x → FnOk Try.prog ren 96 x := fun x h => by
  have e : D 186 = some (.code C.value_Strict) := by kernel_rfl
  rw [e] at h; cases h; exact c186
theorem c181 : FnOk Try.prog ren 135 (.code C.value_IsObject) := .code (fn := Try.f135) Try.func135 rfl (by kernel_rfl) (by kernel_rfl)
theorem h181 : ∀ x, D 181 = some x → FnOk Try.prog ren 135 x := fun x h => by
  have e : D 181 = some (.code C.value_IsObject) := by kernel_rfl
  rw [e] at h; cases h; exact c181
theorem c130 : FnOk Try.prog ren 128 (.code C.desc_IsPlain) := .code (fn := Try.f128) Try.func128 rfl (by kernel_rfl) (by kernel_rfl)
theorem h130 : ∀ x, D 130 = some x → FnOk Try.prog ren 128 x := fun x h => by
  have e : D 130 = some (.code C.desc_IsPlain) := by kernel_rfl
  rw [e] at h; cases h; exact c130
theorem c124 : FnOk Try.prog ren 35 (.code C.desc_Apply) := .code (fn := Try.f35) Try.func35 rfl (by kernel_rfl) (by kernel_rfl)
theorem h124 : ∀ x, D 124 = some x → FnOk Try.prog ren 35 x := fun x h => by
  have e : D 124 = some (.code C.desc_Apply) := by kernel_rfl
  rw [e] at h; cases h; exact c124
theorem c2 : FnOk Try.prog ren 38 (.code C.bailifflaw09_alive) := .code (fn := Try.f38) Try.func38 rfl (by kernel_rfl) (by kernel_rfl)
theorem h2 : ∀ x, D 2 = some x → FnOk Try.prog ren 38 x := fun x h => by
  have e : D 2 = some (.code C.bailifflaw09_alive) := by kernel_rfl
  rw [e] at h; cases h; exact c2
theorem c127 : FnOk Try.prog ren 39 (.code C.desc_Complete) := .code (fn := Try.f39) Try.func39 rfl (by kernel_rfl) (by kernel_rfl)
theorem h127 : ∀ x, D 127 = some x → FnOk Try.prog ren 39 x := fun x h => by
  have e : D 127 = some (.code C.desc_Complete) := by kernel_rfl
  rw [e] at h; cases h; exact c127
theorem c183 : FnOk Try.prog ren 71 (.code C.value_Num) := .code (fn := Try.f71) Try.func71 rfl (by kernel_rfl) (by kernel_rfl)
theorem h183 : ∀ x, D 183 = some x → FnOk Try.prog ren 71 x := fun x h => by
  have e : D 183 = some (.code C.value_Num) := by kernel_rfl
  rw [e] at h; cases h; exact c183
theorem c131 : FnOk Try.prog ren 40 (.code C.desc_Same) := .code (fn := Try.f40) Try.func40 rfl (by kernel_rfl) (by kernel_rfl)
theorem h131 : ∀ x, D 131 = some x → FnOk Try.prog ren 40 x := fun x h => by
  have e : D 131 = some (.code C.desc_Same) := by kernel_rfl
  rw [e] at h; cases h; exact c131
theorem c3 : FnOk Try.prog ren 41 (.code C.bailifflaw09_left) := .code (fn := Try.f41) Try.func41 rfl (by kernel_rfl) (by kernel_rfl)
theorem h3 : ∀ x, D 3 = some x → FnOk Try.prog ren 41 x := fun x h => by
  have e : D 3 = some (.code C.bailifflaw09_left) := by kernel_rfl
  rw [e] at h; cases h; exact c3
theorem look_cons2 {a b f g : Nat} {l : List (Nat × Nat)} (h : look ((a, b) :: l) f = some g) : (f = a ∧ g = b) ∨ look l f = some g := by
  simp only [look] at h
  cases e : Nat.beq a f with
  | true => rw [e] at h; cases h; exact .inl ⟨(Nat.eq_of_beq_eq_true e).symm, rfl⟩
  | false => rw [e] at h; exact .inr h
theorem hall : ∀ f g, ren f = some g → ∀ x, D f = some x → FnOk Try.prog ren g x := by
  intro f g h
  unfold ren renT at h
  rcases look_cons2 h with ⟨rfl, rfl⟩ | h
  · exact h0
  rcases look_cons2 h with ⟨rfl, rfl⟩ | h
  · exact h4
  rcases look_cons2 h with ⟨rfl, rfl⟩ | h
  · exact h126
  rcases look_cons2 h with ⟨rfl, rfl⟩ | h
  · exact h132
  rcases look_cons2 h with ⟨rfl, rfl⟩ | h
  · exact h135
  rcases look_cons2 h with ⟨rfl, rfl⟩ | h
  · exact h128
  rcases look_cons2 h with ⟨rfl, rfl⟩ | h
  · exact h125
  rcases look_cons2 h with ⟨rfl, rfl⟩ | h
  · exact h129
  rcases look_cons2 h with ⟨rfl, rfl⟩ | h
  · exact h182
  rcases look_cons2 h with ⟨rfl, rfl⟩ | h
  · exact h161
  rcases look_cons2 h with ⟨rfl, rfl⟩ | h
  · exact h213
  rcases look_cons2 h with ⟨rfl, rfl⟩ | h
  · exact h214
  rcases look_cons2 h with ⟨rfl, rfl⟩ | h
  · exact h215
  rcases look_cons2 h with ⟨rfl, rfl⟩ | h
  · exact h210
  rcases look_cons2 h with ⟨rfl, rfl⟩ | h
  · exact h207
  rcases look_cons2 h with ⟨rfl, rfl⟩ | h
  · exact h209
  rcases look_cons2 h with ⟨rfl, rfl⟩ | h
  · exact h208
  rcases look_cons2 h with ⟨rfl, rfl⟩ | h
  · exact h212
  rcases look_cons2 h with ⟨rfl, rfl⟩ | h
  · exact h133
  rcases look_cons2 h with ⟨rfl, rfl⟩ | h
  · exact h180
  rcases look_cons2 h with ⟨rfl, rfl⟩ | h
  · exact h134
  rcases look_cons2 h with ⟨rfl, rfl⟩ | h
  · exact h184
  rcases look_cons2 h with ⟨rfl, rfl⟩ | h
  · exact h186
  rcases look_cons2 h with ⟨rfl, rfl⟩ | h
  · exact h181
  rcases look_cons2 h with ⟨rfl, rfl⟩ | h
  · exact h130
  rcases look_cons2 h with ⟨rfl, rfl⟩ | h
  · exact h124
  rcases look_cons2 h with ⟨rfl, rfl⟩ | h
  · exact h2
  rcases look_cons2 h with ⟨rfl, rfl⟩ | h
  · exact h127
  rcases look_cons2 h with ⟨rfl, rfl⟩ | h
  · exact h183
  rcases look_cons2 h with ⟨rfl, rfl⟩ | h
  · exact h131
  rcases look_cons2 h with ⟨rfl, rfl⟩ | h
  · exact h3
  cases h
theorem mixed : Try.prog.follows .mixedOrders = true := by kernel_rfl
end Bz
