/- The checks: each function's resolved code is the program's. -/
import Derived.Test.YtjlgkjmbndmkjaaSound24
import Derived.Test.YtjlgkjmbndmkjaaPrim1
import Derived.Test.YtjlgkjmbndmkjaaDev4
import Derived.KernelRfl
import Derived.Test.YtjlgkjmbndmkjaaProg
set_option linter.all false
set_option maxRecDepth 100000
namespace Bz
open Go Go.Proofs
def renT : List (Nat × Nat) := (1, 6) :: (4, 32) :: (126, 33) :: (132, 84) :: (135, 92) :: (128, 42) :: (125, 95) :: (129, 93) :: (182, 133) :: (161, 156) :: (213, 173) :: (214, 182) :: (215, 183) :: (210, 116) :: (207, 174) :: (209, 184) :: (208, 188) :: (212, 175) :: (133, 134) :: (180, 157) :: (134, 85) :: (184, 43) :: (186, 96) :: (181, 135) :: (130, 128) :: (60, 34) :: (59, 86) :: (61, 88) :: (63, 89) :: (62, 90) :: (66, 129) :: (45, 27) :: (42, 79) :: (48, 130) :: (53, 153) :: (40, 154) :: (44, 172) :: (67, 131) :: (46, 155) :: (64, 87) :: (50, 91) :: (47, 132) :: (124, 35) :: (58, 36) :: (65, 94) :: (57, 37) :: []
def ren (n : Nat) : Option Nat := look renT n
theorem c1 : FnOk Try.prog ren 6 (.code C.bailifflaw09_DescTwos) := .code (fn := Try.f6) Try.func6 rfl (by kernel_rfl) (by kernel_rfl)
theorem h1 : ∀ x, D 1 = some x → FnOk Try.prog ren 6 x := fun x h => by
  have e : D 1 = some (.code C.bailifflaw09_DescTwos) := by kernel_rfl
  rw [e] at h; cases h; exact c1
theorem c4 : FnOk Try.prog ren 32 (.code C.bailifflaw09_long) := .code (fn := Try.f32) Try.func32 rfl (by kernel_rfl) (by kernel_rfl)
theorem h4 : ∀ x, D 4 = some x → FnOk Try.prog ren 32 x := fun x h => by
  have e : D 4 = some (.code C.bailifflaw09_long) := by kernel_rfl
  rw [e] at h; cases h; exact c4
theorem c126 : FnOk Try.prog ren 33 (.code C.desc_Compatible) := .code (fn := Try.f33) Try.func33 rfl (by kernel_rfl) (by kernel_rfl)
theorem h126 : ∀ x, D 126 = some x → FnOk Try.prog ren 33 x := fun x h => by
  have e : D 126 = some (.code C.desc_Compatible) := by kernel_rfl
  rw [e] at h; cases h; exact c126
theorem c132 : FnOk Try.prog ren 84 (.code C.desc_asked) := .code (fn := Try.f84) Try.func84 rfl (by kernel_rfl) (by kernel_rfl)
theorem h132 : ∀ x, D 132 = some x → FnOk Try.prog ren 84 x := fun x h => by
  have e : D 132 = some (.code C.desc_asked) := by kernel_rfl
  rw [e] at h; cases h; exact c132
theorem c135 : FnOk Try.prog ren 92 (.code C.desc_whole) := .code (fn := Try.f92) Try.func92 rfl (by kernel_rfl) (by kernel_rfl)
theorem h135 : ∀ x, D 135 = some x → FnOk Try.prog ren 92 x := fun x h => by
  have e : D 135 = some (.code C.desc_whole) := by kernel_rfl
  rw [e] at h; cases h; exact c135
theorem c128 : FnOk Try.prog ren 42 (.code C.desc_IsAccess) := .code (fn := Try.f42) Try.func42 rfl (by kernel_rfl) (by kernel_rfl)
theorem h128 : ∀ x, D 128 = some x → FnOk Try.prog ren 42 x := fun x h => by
  have e : D 128 = some (.code C.desc_IsAccess) := by kernel_rfl
  rw [e] at h; cases h; exact c128
theorem c125 : FnOk Try.prog ren 95 (.code C.desc_Check) := .code (fn := Try.f95) Try.func95 rfl (by kernel_rfl) (by kernel_rfl)
theorem h125 : ∀ x, D 125 = some x → FnOk Try.prog ren 95 x := fun x h => by
  have e : D 125 = some (.code C.desc_Check) := by kernel_rfl
  rw [e] at h; cases h; exact c125
theorem c129 : FnOk Try.prog ren 93 (.code C.desc_IsData) := .code (fn := Try.f93) Try.func93 rfl (by kernel_rfl) (by kernel_rfl)
theorem h129 : ∀ x, D 129 = some x → FnOk Try.prog ren 93 x := fun x h => by
  have e : D 129 = some (.code C.desc_IsData) := by kernel_rfl
  rw [e] at h; cases h; exact c129
theorem c182 : FnOk Try.prog ren 133 (.code C.value_May) := .code (fn := Try.f133) Try.func133 rfl (by kernel_rfl) (by kernel_rfl)
theorem h182 : ∀ x, D 182 = some x → FnOk Try.prog ren 133 x := fun x h => by
  have e : D 182 = some (.code C.value_May) := by kernel_rfl
  rw [e] at h; cases h; exact c182
theorem c161 : FnOk Try.prog ren 156 (.code C.num_May) := .code (fn := Try.f156) Try.func156 rfl (by kernel_rfl) (by kernel_rfl)
theorem h161 : ∀ x, D 161 = some x → FnOk Try.prog ren 156 x := fun x h => by
  have e : D 161 = some (.code C.num_May) := by kernel_rfl
  rw [e] at h; cases h; exact c161
theorem c213 : FnOk Try.prog ren 173 (.code C.math_Trunc) := .code (fn := Try.f173) Try.func173 rfl (by kernel_rfl) (by kernel_rfl)
theorem h213 : ∀ x, D 213 = some x → FnOk Try.prog ren 173 x := fun x h => by
  have e : D 213 = some (.code C.math_Trunc) := by kernel_rfl
  rw [e] at h; cases h; exact c213
theorem c214 : FnOk Try.prog ren 182 (.prim P.trunc) := .prim (trunc_ok (fn := Try.f182) Try.func182 rfl rfl rfl rfl)
theorem h214 : ∀ x, D 214 = some x → FnOk Try.prog ren 182 x := fun x h => by
  have e : D 214 = some (.prim P.trunc) := by kernel_rfl
  rw [e] at h; cases h; exact c214
theorem c215 : FnOk Try.prog ren 183 (.code C.math_trunc) := .code (fn := Try.f183) Try.func183 rfl (by kernel_rfl) (by kernel_rfl)
theorem h215 : ∀ x, D 215 = some x → FnOk Try.prog ren 183 x := fun x h => by
  have e : D 215 = some (.code C.math_trunc) := by kernel_rfl
  rw [e] at h; cases h; exact c215
theorem c210 : FnOk Try.prog ren 116 (.prim P.bits2f) := .prim (bits2f_ok (fn := Try.f116) Try.func116 rfl rfl rfl rfl)
theorem h210 : ∀ x, D 210 = some x → FnOk Try.prog ren 116 x := fun x h => by
  have e : D 210 = some (.prim P.bits2f) := by kernel_rfl
  rw [e] at h; cases h; exact c210
theorem c207 : FnOk Try.prog ren 174 (.code C.math_Abs) := .code (fn := Try.f174) Try.func174 rfl (by kernel_rfl) (by kernel_rfl)
theorem h207 : ∀ x, D 207 = some x → FnOk Try.prog ren 174 x := fun x h => by
  have e : D 207 = some (.code C.math_Abs) := by kernel_rfl
  rw [e] at h; cases h; exact c207
theorem c209 : FnOk Try.prog ren 184 (.prim P.f2bits) := .prim (f2bits_ok (fn := Try.f184) Try.func184 rfl rfl rfl rfl)
theorem h209 : ∀ x, D 209 = some x → FnOk Try.prog ren 184 x := fun x h => by
  have e : D 209 = some (.prim P.f2bits) := by kernel_rfl
  rw [e] at h; cases h; exact c209
theorem c208 : FnOk Try.prog ren 188 (.code C.math_Copysign) := .code (fn := Try.f188) Try.func188 rfl (by kernel_rfl) (by kernel_rfl)
theorem h208 : ∀ x, D 208 = some x → FnOk Try.prog ren 188 x := fun x h => by
  have e : D 208 = some (.code C.math_Copysign) := by kernel_rfl
  rw [e] at h; cases h; exact c208
theorem c212 : FnOk Try.prog ren 175 (.code C.math_Signbit) := .code (fn := Try.f175) Try.func175 rfl (by kernel_rfl) (by kernel_rfl)
theorem h212 : ∀ x, D 212 = some x → FnOk Try.prog ren 175 x := fun x h => by
  have e : D 212 = some (.code C.math_Signbit) := by kernel_rfl
  rw [e] at h; cases h; exact c212
theorem c133 : FnOk Try.prog ren 134 (.code C.desc_called) := .code (fn := Try.f134) Try.func134 rfl (by kernel_rfl) (by kernel_rfl)
theorem h133 : ∀ x, D 133 = some x → FnOk Try.prog ren 134 x := fun x h => by
  have e : D 133 = some (.code C.desc_called) := by kernel_rfl
  rw [e] at h; cases h; exact c133
theorem c180 : FnOk Try.prog ren 157 (.code C.value_Calls) := .code (fn := Try.f157) Try.func157 rfl (by kernel_rfl) (by kernel_rfl)
theorem h180 : ∀ x, D 180 = some x → FnOk Try.prog ren 157 x := fun x h => by
  have e : D 180 = some (.code C.value_Calls) := by kernel_rfl
  rw [e] at h; cases h; exact c180
theorem c134 : FnOk Try.prog ren 85 (.code C.desc_may) := .code (fn := Try.f85) Try.func85 rfl (by kernel_rfl) (by kernel_rfl)
theorem h134 : ∀ x, D 134 = some x → FnOk Try.prog ren 85 x := fun x h => by
  have e : D 134 = some (.code C.desc_may) := by kernel_rfl
  rw [e] at h; cases h; exact c134
theorem c184 : FnOk Try.prog ren 43 (.code C.value_Same) := .code (fn := Try.f43) Try.func43 rfl (by kernel_rfl) (by kernel_rfl)
theorem h184 : ∀ x, D 184 = some x → FnOk Try.prog ren 43 x := fun x h => by
  have e : D 184 = some (.code C.value_Same) := by kernel_rfl
  rw [e] at h; cases h; exact c184
theorem c186 : FnOk Try.prog ren 96 (.code C.value_Strict) := .code (fn := Try.f96) Try.func96 rfl (by kernel_rfl) (by kernel_rfl)
theorem h186 : ∀ x, D 186 = some x → FnOk Try.prog ren 96 x := fun x h => by
  have e : D 186 = some (.code C.value_Strict) := by kernel_rfl
  rw [e] at h; cases h; exact c186
theorem c181 : FnOk Try.prog ren 135 (.code C.value_IsObject) := .code (fn := Try.f135) Try.func135 rfl (by kernel_rfl) (by kernel_rfl)
theorem h181 : ∀ x, D 181 = some x → FnOk Try.prog ren 135 x := fun x h => by
  have e : D 181 = some (.code C.value_IsObject) := by kernel_rfl
  rw [e] at h; cases h; exact c181
theorem c130 : FnOk Try.prog ren 128 (.code C.desc_IsPlain) := .code (fn := Try.f128) Try.func128 rfl (by kernel_rfl) (by kernel_rfl)
theorem h130 : ∀ x, D 130 = some x → FnOk Try.prog ren 128 x := fun x h => by
  have e : D 130 = some (.code C.desc_IsPlain) := by kernel_rfl
  rw [e] at h; cases h; exact c130
theorem c60 : FnOk Try.prog ren 34 (.code C.bailiffref09_Compatible) := .code (fn := Try.f34) Try.func34 rfl (by kernel_rfl) (by kernel_rfl)
theorem h60 : ∀ x, D 60 = some x → FnOk Try.prog ren 34 x := fun x h => by
  have e : D 60 = some (.code C.bailiffref09_Compatible) := by kernel_rfl
  rw [e] at h; cases h; exact c60
theorem c59 : FnOk Try.prog ren 86 (.code C.bailiffref09_Check) := .code (fn := Try.f86) Try.func86 rfl (by kernel_rfl) (by kernel_rfl)
theorem h59 : ∀ x, D 59 = some x → FnOk Try.prog ren 86 x := fun x h => by
  have e : D 59 = some (.code C.bailiffref09_Check) := by kernel_rfl
  rw [e] at h; cases h; exact c59
theorem c61 : FnOk Try.prog ren 88 (.code C.bailiffref09_Has) := .code (fn := Try.f88) Try.func88 rfl (by kernel_rfl) (by kernel_rfl)
theorem h61 : ∀ x, D 61 = some x → FnOk Try.prog ren 88 x := fun x h => by
  have e : D 61 = some (.code C.bailiffref09_Has) := by kernel_rfl
  rw [e] at h; cases h; exact c61
theorem c63 : FnOk Try.prog ren 89 (.code C.bailiffref09_IsData) := .code (fn := Try.f89) Try.func89 rfl (by kernel_rfl) (by kernel_rfl)
theorem h63 : ∀ x, D 63 = some x → FnOk Try.prog ren 89 x := fun x h => by
  have e : D 63 = some (.code C.bailiffref09_IsData) := by kernel_rfl
  rw [e] at h; cases h; exact c63
theorem c62 : FnOk Try.prog ren 90 (.code C.bailiffref09_IsAccess) := .code (fn := Try.f90) Try.func90 rfl (by kernel_rfl) (by kernel_rfl)
theorem h62 : ∀ x, D 62 = some x → FnOk Try.prog ren 90 x := fun x h => by
  have e : D 62 = some (.code C.bailiffref09_IsAccess) := by kernel_rfl
  rw [e] at h; cases h; exact c62
theorem c66 : FnOk Try.prog ren 129 (.code C.bailiffref09_bare) := .code (fn := Try.f129) Try.func129 rfl (by kernel_rfl) (by kernel_rfl)
theorem h66 : ∀ x, D 66 = some x → FnOk Try.prog ren 129 x := fun x h => by
  have e : D 66 = some (.code C.bailiffref09_bare) := by kernel_rfl
  rw [e] at h; cases h; exact c66
theorem c45 : FnOk Try.prog ren 27 (.code C.bailiffref07_Alike) := .code (fn := Try.f27) Try.func27 rfl (by kernel_rfl) (by kernel_rfl)
theorem h45 : ∀ x, D 45 = some x → FnOk Try.prog ren 27 x := fun x h => by
  have e : D 45 = some (.code C.bailiffref07_Alike) := by kernel_rfl
  rw [e] at h; cases h; exact c45
theorem c42 : FnOk Try.prog ren 79 (.code C.bailiffref01_Same) := .code (fn := Try.f79) Try.func79 rfl (by kernel_rfl) (by kernel_rfl)
theorem h42 : ∀ x, D 42 = some x → FnOk Try.prog ren 79 x := fun x h => by
  have e : D 42 = some (.code C.bailiffref01_Same) := by kernel_rfl
  rw [e] at h; cases h; exact c42
theorem c48 : FnOk Try.prog ren 130 (.code C.bailiffref07_May) := .code (fn := Try.f130) Try.func130 rfl (by kernel_rfl) (by kernel_rfl)
theorem h48 : ∀ x, D 48 = some x → FnOk Try.prog ren 130 x := fun x h => by
  have e : D 48 = some (.code C.bailiffref07_May) := by kernel_rfl
  rw [e] at h; cases h; exact c48
theorem c53 : FnOk Try.prog ren 153 (.code C.bailiffref07_nought) := .code (fn := Try.f153) Try.func153 rfl (by kernel_rfl) (by kernel_rfl)
theorem h53 : ∀ x, D 53 = some x → FnOk Try.prog ren 153 x := fun x h => by
  have e : D 53 = some (.code C.bailiffref07_nought) := by kernel_rfl
  rw [e] at h; cases h; exact c53
theorem c40 : FnOk Try.prog ren 154 (.code C.bailiffref01_May) := .code (fn := Try.f154) Try.func154 rfl (by kernel_rfl) (by kernel_rfl)
theorem h40 : ∀ x, D 40 = some x → FnOk Try.prog ren 154 x := fun x h => by
  have e : D 40 = some (.code C.bailiffref01_May) := by kernel_rfl
  rw [e] at h; cases h; exact c40
theorem c44 : FnOk Try.prog ren 172 (.code C.bailiffref01_whole) := .code (fn := Try.f172) Try.func172 rfl (by kernel_rfl) (by kernel_rfl)
theorem h44 : ∀ x, D 44 = some x → FnOk Try.prog ren 172 x := fun x h => by
  have e : D 44 = some (.code C.bailiffref01_whole) := by kernel_rfl
  rw [e] at h; cases h; exact c44
theorem c67 : FnOk Try.prog ren 131 (.code C.bailiffref09_called) := .code (fn := Try.f131) Try.func131 rfl (by kernel_rfl) (by kernel_rfl)
theorem h67 : ∀ x, D 67 = some x → FnOk Try.prog ren 131 x := fun x h => by
  have e : D 67 = some (.code C.bailiffref09_called) := by kernel_rfl
  rw [e] at h; cases h; exact c67
theorem c46 : FnOk Try.prog ren 155 (.code C.bailiffref07_Calls) := .code (fn := Try.f155) Try.func155 rfl (by kernel_rfl) (by kernel_rfl)
theorem h46 : ∀ x, D 46 = some x → FnOk Try.prog ren 155 x := fun x h => by
  have e : D 46 = some (.code C.bailiffref07_Calls) := by kernel_rfl
  rw [e] at h; cases h; exact c46
theorem c64 : FnOk Try.prog ren 87 (.code C.bailiffref09_IsWhole) := .code (fn := Try.f87) Try.func87 rfl (by kernel_rfl) (by kernel_rfl)
theorem h64 : ∀ x, D 64 = some x → FnOk Try.prog ren 87 x := fun x h => by
  have e : D 64 = some (.code C.bailiffref09_IsWhole) := by kernel_rfl
  rw [e] at h; cases h; exact c64
theorem c50 : FnOk Try.prog ren 91 (.code C.bailiffref07_Same) := .code (fn := Try.f91) Try.func91 rfl (by kernel_rfl) (by kernel_rfl)
theorem h50 : ∀ x, D 50 = some x → FnOk Try.prog ren 91 x := fun x h => by
  have e : D 50 = some (.code C.bailiffref07_Same) := by kernel_rfl
  rw [e] at h; cases h; exact c50
theorem c47 : FnOk Try.prog ren 132 (.code C.bailiffref07_IsObject) := .code (fn := Try.f132) Try.func132 rfl (by kernel_rfl) (by kernel_rfl)
theorem h47 : ∀ x, D 47 = some x → FnOk Try.prog ren 132 x := fun x h => by
  have e : D 47 = some (.code C.bailiffref07_IsObject) := by kernel_rfl
  rw [e] at h; cases h; exact c47
theorem c124 : FnOk Try.prog ren 35 (.code C.desc_Apply) := .code (fn := Try.f35) Try.func35 rfl (by kernel_rfl) (by kernel_rfl)
theorem h124 : ∀ x, D 124 = some x → FnOk Try.prog ren 35 x := fun x h => by
  have e : D 124 = some (.code C.desc_Apply) := by kernel_rfl
  rw [e] at h; cases h; exact c124
theorem c58 : FnOk Try.prog ren 36 (.code C.bailiffref09_Apply) := .code (fn := Try.f36) Try.func36 rfl (by kernel_rfl) (by kernel_rfl)
theorem h58 : ∀ x, D 58 = some x → FnOk Try.prog ren 36 x := fun x h => by
  have e : D 58 = some (.code C.bailiffref09_Apply) := by kernel_rfl
  rw [e] at h; cases h; exact c58
theorem c65 : FnOk Try.prog ren 94 (.code C.bailiffref09_Whole) := .code (fn := Try.f94) Try.func94 rfl (by kernel_rfl) (by kernel_rfl)
theorem h65 : ∀ x, D 65 = some x → FnOk Try.prog ren 94 x := fun x h => by
  have e : D 65 = some (.code C.bailiffref09_Whole) := by kernel_rfl
  rw [e] at h; cases h; exact c65
theorem c57 : FnOk Try.prog ren 37 (.code C.bailiffref09_Alike) := .code (fn := Try.f37) Try.func37 rfl (by kernel_rfl) (by kernel_rfl)
theorem h57 : ∀ x, D 57 = some x → FnOk Try.prog ren 37 x := fun x h => by
  have e : D 57 = some (.code C.bailiffref09_Alike) := by kernel_rfl
  rw [e] at h; cases h; exact c57
theorem look_cons2 {a b f g : Nat} {l : List (Nat × Nat)} (h : look ((a, b) :: l) f = some g) : (f = a ∧ g = b) ∨ look l f = some g := by
  simp only [look] at h
  cases e : Nat.beq a f with
  | true => rw [e] at h; cases h; exact .inl ⟨(Nat.eq_of_beq_eq_true e).symm, rfl⟩
  | false => rw [e] at h; exact .inr h
theorem hall : ∀ f g, ren f = some g → ∀ x, D f = some x → FnOk Try.prog ren g x := by
  intro f g h
  unfold ren renT at h
  rcases look_cons2 h with ⟨rfl, rfl⟩ | h
  · exact h1
  rcases look_cons2 h with ⟨rfl, rfl⟩ | h
  · exact h4
  rcases look_cons2 h with ⟨rfl, rfl⟩ | h
  · exact h126
  rcases look_cons2 h with ⟨rfl, rfl⟩ | h
  · exact h132
  rcases look_cons2 h with ⟨rfl, rfl⟩ | h
  · exact h135
  rcases look_cons2 h with ⟨rfl, rfl⟩ | h
  · exact h128
  rcases look_cons2 h with ⟨rfl, rfl⟩ | h
  · exact h125
  rcases look_cons2 h with ⟨rfl, rfl⟩ | h
  · exact h129
  rcases look_cons2 h with ⟨rfl, rfl⟩ | h
  · exact h182
  rcases look_cons2 h with ⟨rfl, rfl⟩ | h
  · exact h161
  rcases look_cons2 h with ⟨rfl, rfl⟩ | h
  · exact h213
  rcases look_cons2 h with ⟨rfl, rfl⟩ | h
  · exact h214
  rcases look_cons2 h with ⟨rfl, rfl⟩ | h
  · exact h215
  rcases look_cons2 h with ⟨rfl, rfl⟩ | h
  · exact h210
  rcases look_cons2 h with ⟨rfl, rfl⟩ | h
  · exact h207
  rcases look_cons2 h with ⟨rfl, rfl⟩ | h
  · exact h209
  rcases look_cons2 h with ⟨rfl, rfl⟩ | h
  · exact h208
  rcases look_cons2 h with ⟨rfl, rfl⟩ | h
  · exact h212
  rcases look_cons2 h with ⟨rfl, rfl⟩ | h
  · exact h133
  rcases look_cons2 h with ⟨rfl, rfl⟩ | h
  · exact h180
  rcases look_cons2 h with ⟨rfl, rfl⟩ | h
  · exact h134
  rcases look_cons2 h with ⟨rfl, rfl⟩ | h
  · exact h184
  rcases look_cons2 h with ⟨rfl, rfl⟩ | h
  · exact h186
  rcases look_cons2 h with ⟨rfl, rfl⟩ | h
  · exact h181
  rcases look_cons2 h with ⟨rfl, rfl⟩ | h
  · exact h130
  rcases look_cons2 h with ⟨rfl, rfl⟩ | h
  · exact h60
  rcases look_cons2 h with ⟨rfl, rfl⟩ | h
  · exact h59
  rcases look_cons2 h with ⟨rfl, rfl⟩ | h
  · exact h61
  rcases look_cons2 h with ⟨rfl, rfl⟩ | h
  · exact h63
  rcases look_cons2 h with ⟨rfl, rfl⟩ | h
  · exact h62
  rcases look_cons2 h with ⟨rfl, rfl⟩ | h
  · exact h66
  rcases look_cons2 h with ⟨rfl, rfl⟩ | h
  · exact h45
  rcases look_cons2 h with ⟨rfl, rfl⟩ | h
  · exact h42
  rcases look_cons2 h with ⟨rfl, rfl⟩ | h
  · exact h48
  rcases look_cons2 h with ⟨rfl, rfl⟩ | h
  · exact h53
  rcases look_cons2 h with ⟨rfl, rfl⟩ | h
  · exact h40
  rcases look_cons2 h with ⟨rfl, rfl⟩ | h
  · exact h44
  rcases look_cons2 h with ⟨rfl, rfl⟩ | h
  · exact h67
  rcases look_cons2 h with ⟨rfl, rfl⟩ | h
  · exact h46
  rcases look_cons2 h with ⟨rfl, rfl⟩ | h
  · exact h64
  rcases look_cons2 h with ⟨rfl, rfl⟩ | h
  · exact h50
  rcases look_cons2 h with ⟨rfl, rfl⟩ | h
  · exact h47
  rcases look_cons2 h with ⟨rfl, rfl⟩ | h
  · exact h124
  rcases look_cons2 h with ⟨rfl, rfl⟩ | h
  · exact h58
  rcases look_cons2 h with ⟨rfl, rfl⟩ | h
  · exact h65
  rcases look_cons2 h with ⟨rfl, rfl⟩ | h
  · exact h57
  cases h
theorem mixed : Try.prog.follows .mixedOrders = true := by kernel_rfl
end Bz
