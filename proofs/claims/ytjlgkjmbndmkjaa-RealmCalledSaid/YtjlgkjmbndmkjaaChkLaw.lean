/- The checks: each function's resolved code is the program's. -/
import Derived.Test.YtjlgkjmbndmkjaaSound24
import Derived.Test.YtjlgkjmbndmkjaaPrim1
import Derived.Test.YtjlgkjmbndmkjaaDev4
import Derived.KernelRfl
import Derived.Test.YtjlgkjmbndmkjaaProg
set_option linter.all false
set_option maxRecDepth 100000
namespace Bz
open Go Go.Proofs
def renT : List (Nat × Nat) := (23, 4) :: (163, 21) :: (167, 67) :: (168, 68) :: (97, 22) :: (94, 69) :: (95, 77) :: (100, 113) :: (101, 114) :: (102, 115) :: (165, 23) :: (99, 24) :: (106, 70) :: (162, 25) :: (183, 71) :: (211, 72) :: (210, 116) :: (172, 73) :: (170, 117) :: (173, 74) :: (96, 26) :: (49, 75) :: (41, 76) :: (108, 78) :: (104, 118) :: (45, 27) :: (42, 79) :: (166, 28) :: []
def ren (n : Nat) : Option Nat := look renT n
theorem c23 : FnOk Try.prog ren 4 (.code C.bailifflaw24_RealmCalled) := .code (fn := Try.f4) Try.func4 rfl (by kernel_rfl) (by kernel_rfl)
theorem h23 : ∀ x, D 23 = some x → FnOk Try.prog ren 4 x := fun x h => by
  have e : D 23 = some (.code C.bailifflaw24_RealmCalled) := by kernel_rfl
  rw [e] at h; cases h; exact c23
theorem c163 : FnOk Try.prog ren 21 (.code C.realm_Native) := .code (fn := Try.f21) Try.func21 rfl (by kernel_rfl) (by kernel_rfl)
theorem h163 : ∀ x, D 163 = some x → FnOk Try.prog ren 21 x := fun x h => by
  have e : D 163 = some (.code C.realm_Native) := by kernel_rfl
  rw [e] at h; cases h; exact c163
theorem c167 : FnOk Try.prog ren 67 (.code C.realm_firsts) := .code (fn := Try.f67) Try.func67 rfl (by kernel_rfl) (by kernel_rfl)
theorem h167 : ∀ x, D 167 = some x → FnOk Try.prog ren 67 x := fun x h => by
  have e : D 167 = some (.code C.realm_firsts) := by kernel_rfl
  rw [e] at h; cases h; exact c167
theorem c168 : FnOk Try.prog ren 68 (.code C.realm_functions) := .code (fn := Try.f68) Try.func68 rfl (by kernel_rfl) (by kernel_rfl)
theorem h168 : ∀ x, D 168 = some x → FnOk Try.prog ren 68 x := fun x h => by
  have e : D 168 = some (.code C.realm_functions) := by kernel_rfl
  rw [e] at h; cases h; exact c168
theorem c97 : FnOk Try.prog ren 22 (.code C.bailiffref24_Native) := .code (fn := Try.f22) Try.func22 rfl (by kernel_rfl) (by kernel_rfl)
theorem h97 : ∀ x, D 97 = some x → FnOk Try.prog ren 22 x := fun x h => by
  have e : D 97 = some (.code C.bailiffref24_Native) := by kernel_rfl
  rw [e] at h; cases h; exact c97
theorem c94 : FnOk Try.prog ren 69 (.code C.bailiffref24_All) := .code (fn := Try.f69) Try.func69 rfl (by kernel_rfl) (by kernel_rfl)
theorem h94 : ∀ x, D 94 = some x → FnOk Try.prog ren 69 x := fun x h => by
  have e : D 94 = some (.code C.bailiffref24_All) := by kernel_rfl
  rw [e] at h; cases h; exact c94
theorem c95 : FnOk Try.prog ren 77 (.code C.bailiffref24_Firsts) := .code (fn := Try.f77) Try.func77 rfl (by kernel_rfl) (by kernel_rfl)
theorem h95 : ∀ x, D 95 = some x → FnOk Try.prog ren 77 x := fun x h => by
  have e : D 95 = some (.code C.bailiffref24_Firsts) := by kernel_rfl
  rw [e] at h; cases h; exact c95
theorem c100 : FnOk Try.prog ren 113 (.code C.bailiffref24_OfObject) := .code (fn := Try.f113) Try.func113 rfl (by kernel_rfl) (by kernel_rfl)
theorem h100 : ∀ x, D 100 = some x → FnOk Try.prog ren 113 x := fun x h => by
  have e : D 100 = some (.code C.bailiffref24_OfObject) := by kernel_rfl
  rw [e] at h; cases h; exact c100
theorem c101 : FnOk Try.prog ren 114 (.code C.bailiffref24_OfReflect) := .code (fn := Try.f114) Try.func114 rfl (by kernel_rfl) (by kernel_rfl)
theorem h101 : ∀ x, D 101 = some x → FnOk Try.prog ren 114 x := fun x h => by
  have e : D 101 = some (.code C.bailiffref24_OfReflect) := by kernel_rfl
  rw [e] at h; cases h; exact c101
theorem c102 : FnOk Try.prog ren 115 (.code C.bailiffref24_Others) := .code (fn := Try.f115) Try.func115 rfl (by kernel_rfl) (by kernel_rfl)
theorem h102 : ∀ x, D 102 = some x → FnOk Try.prog ren 115 x := fun x h => by
  have e : D 102 = some (.code C.bailiffref24_Others) := by kernel_rfl
  rw [e] at h; cases h; exact c102
theorem c165 : FnOk Try.prog ren 23 (.code C.realm_Number) := .code (fn := Try.f23) Try.func23 rfl (by kernel_rfl) (by kernel_rfl)
theorem h165 : ∀ x, D 165 = some x → FnOk Try.prog ren 23 x := fun x h => by
  have e : D 165 = some (.code C.realm_Number) := by kernel_rfl
  rw [e] at h; cases h; exact c165
theorem c99 : FnOk Try.prog ren 24 (.code C.bailiffref24_Number) := .code (fn := Try.f24) Try.func24 rfl (by kernel_rfl) (by kernel_rfl)
theorem h99 : ∀ x, D 99 = some x → FnOk Try.prog ren 24 x := fun x h => by
  have e : D 99 = some (.code C.bailiffref24_Number) := by kernel_rfl
  rw [e] at h; cases h; exact c99
theorem c106 : FnOk Try.prog ren 70 (.code C.bailiffref24_find) := .code (fn := Try.f70) Try.func70 rfl (by kernel_rfl) (by kernel_rfl)
theorem h106 : ∀ x, D 106 = some x → FnOk Try.prog ren 70 x := fun x h => by
  have e : D 106 = some (.code C.bailiffref24_find) := by kernel_rfl
  rw [e] at h; cases h; exact c106
theorem c162 : FnOk Try.prog ren 25 (.code C.realm_Names) := .code (fn := Try.f25) Try.func25 rfl (by kernel_rfl) (by kernel_rfl)
theorem h162 : ∀ x, D 162 = some x → FnOk Try.prog ren 25 x := fun x h => by
  have e : D 162 = some (.code C.realm_Names) := by kernel_rfl
  rw [e] at h; cases h; exact c162
theorem c183 : FnOk Try.prog ren 71 (.code C.value_Num) := .code (fn := Try.f71) Try.func71 rfl (by kernel_rfl) (by kernel_rfl)
theorem h183 : ∀ x, D 183 = some x → FnOk Try.prog ren 71 x := fun x h => by
  have e : D 183 = some (.code C.value_Num) := by kernel_rfl
  rw [e] at h; cases h; exact c183
theorem c211 : FnOk Try.prog ren 72 (.code C.math_NaN) := .code (fn := Try.f72) Try.func72 rfl (by kernel_rfl) (by kernel_rfl)
theorem h211 : ∀ x, D 211 = some x → FnOk Try.prog ren 72 x := fun x h => by
  have e : D 211 = some (.code C.math_NaN) := by kernel_rfl
  rw [e] at h; cases h; exact c211
theorem c210 : FnOk Try.prog ren 116 (.prim P.bits2f) := .prim (bits2f_ok (fn := Try.f116) Try.func116 rfl rfl rfl rfl)
theorem h210 : ∀ x, D 210 = some x → FnOk Try.prog ren 116 x := fun x h => by
  have e : D 210 = some (.prim P.bits2f) := by kernel_rfl
  rw [e] at h; cases h; exact c210
theorem c172 : FnOk Try.prog ren 73 (.code C.realm_object) := .code (fn := Try.f73) Try.func73 rfl (by kernel_rfl) (by kernel_rfl)
theorem h172 : ∀ x, D 172 = some x → FnOk Try.prog ren 73 x := fun x h => by
  have e : D 172 = some (.code C.realm_object) := by kernel_rfl
  rw [e] at h; cases h; exact c172
theorem c170 : FnOk Try.prog ren 117 (.code C.realm_kind) := .code (fn := Try.f117) Try.func117 rfl (by kernel_rfl) (by kernel_rfl)
theorem h170 : ∀ x, D 170 = some x → FnOk Try.prog ren 117 x := fun x h => by
  have e : D 170 = some (.code C.realm_kind) := by kernel_rfl
  rw [e] at h; cases h; exact c170
theorem c173 : FnOk Try.prog ren 74 (.code C.realm_place) := .code (fn := Try.f74) Try.func74 rfl (by kernel_rfl) (by kernel_rfl)
theorem h173 : ∀ x, D 173 = some x → FnOk Try.prog ren 74 x := fun x h => by
  have e : D 173 = some (.code C.realm_place) := by kernel_rfl
  rw [e] at h; cases h; exact c173
theorem c96 : FnOk Try.prog ren 26 (.code C.bailiffref24_Names) := .code (fn := Try.f26) Try.func26 rfl (by kernel_rfl) (by kernel_rfl)
theorem h96 : ∀ x, D 96 = some x → FnOk Try.prog ren 26 x := fun x h => by
  have e : D 96 = some (.code C.bailiffref24_Names) := by kernel_rfl
  rw [e] at h; cases h; exact c96
theorem c49 : FnOk Try.prog ren 75 (.code C.bailiffref07_Num) := .code (fn := Try.f75) Try.func75 rfl (by kernel_rfl) (by kernel_rfl)
theorem h49 : ∀ x, D 49 = some x → FnOk Try.prog ren 75 x := fun x h => by
  have e : D 49 = some (.code C.bailiffref07_Num) := by kernel_rfl
  rw [e] at h; cases h; exact c49
theorem c41 : FnOk Try.prog ren 76 (.code C.bailiffref01_NaN) := .code (fn := Try.f76) Try.func76 rfl (by kernel_rfl) (by kernel_rfl)
theorem h41 : ∀ x, D 41 = some x → FnOk Try.prog ren 76 x := fun x h => by
  have e : D 41 = some (.code C.bailiffref01_NaN) := by kernel_rfl
  rw [e] at h; cases h; exact c41
theorem c108 : FnOk Try.prog ren 78 (.code C.bailiffref24_object) := .code (fn := Try.f78) Try.func78 rfl (by kernel_rfl) (by kernel_rfl)
theorem h108 : ∀ x, D 108 = some x → FnOk Try.prog ren 78 x := fun x h => by
  have e : D 108 = some (.code C.bailiffref24_object) := by kernel_rfl
  rw [e] at h; cases h; exact c108
theorem c104 : FnOk Try.prog ren 118 (.code C.bailiffref24_can) := .code (fn := Try.f118) Try.func118 rfl (by kernel_rfl) (by kernel_rfl)
theorem h104 : ∀ x, D 104 = some x → FnOk Try.prog ren 118 x := fun x h => by
  have e : D 104 = some (.code C.bailiffref24_can) := by kernel_rfl
  rw [e] at h; cases h; exact c104
theorem c45 : FnOk Try.prog ren 27 (.code C.bailiffref07_Alike) := .code (fn := Try.f27) Try.func27 rfl (by kernel_rfl) (by kernel_rfl)
theorem h45 : ∀ x, D 45 = some x → FnOk Try.prog ren 27 x := fun x h => by
  have e : D 45 = some (.code C.bailiffref07_Alike) := by kernel_rfl
  rw [e] at h; cases h; exact c45
theorem c42 : FnOk Try.prog ren 79 (.code C.bailiffref01_Same) := .code (fn := Try.f79) Try.func79 rfl (by kernel_rfl) (by kernel_rfl)
theorem h42 : ∀ x, D 42 = some x → FnOk Try.prog ren 79 x := fun x h => by
  have e : D 42 = some (.code C.bailiffref01_Same) := by kernel_rfl
  rw [e] at h; cases h; exact c42
theorem c166 : FnOk Try.prog ren 28 (.code C.realm_Symbols) := .code (fn := Try.f28) Try.func28 rfl (by kernel_rfl) (by kernel_rfl)
theorem h166 : ∀ x, D 166 = some x → FnOk Try.prog ren 28 x := fun x h => by
  have e : D 166 = some (.code C.realm_Symbols) := by kernel_rfl
  rw [e] at h; cases h; exact c166
theorem look_cons2 {a b f g : Nat} {l : List (Nat × Nat)} (h : look ((a, b) :: l) f = some g) : (f = a ∧ g = b) ∨ look l f = some g := by
  simp only [look] at h
  cases e : Nat.beq a f with
  | true => rw [e] at h; cases h; exact .inl ⟨(Nat.eq_of_beq_eq_true e).symm, rfl⟩
  | false => rw [e] at h; exact .inr h
theorem hall : ∀ f g, ren f = some g → ∀ x, D f = some x → FnOk Try.prog ren g x := by
  intro f g h
  unfold ren renT at h
  rcases look_cons2 h with ⟨rfl, rfl⟩ | h
  · exact h23
  rcases look_cons2 h with ⟨rfl, rfl⟩ | h
  · exact h163
  rcases look_cons2 h with ⟨rfl, rfl⟩ | h
  · exact h167
  rcases look_cons2 h with ⟨rfl, rfl⟩ | h
  · exact h168
  rcases look_cons2 h with ⟨rfl, rfl⟩ | h
  · exact h97
  rcases look_cons2 h with ⟨rfl, rfl⟩ | h
  · exact h94
  rcases look_cons2 h with ⟨rfl, rfl⟩ | h
  · exact h95
  rcases look_cons2 h with ⟨rfl, rfl⟩ | h
  · exact h100
  rcases look_cons2 h with ⟨rfl, rfl⟩ | h
  · exact h101
  rcases look_cons2 h with ⟨rfl, rfl⟩ | h
  · exact h102
  rcases look_cons2 h with ⟨rfl, rfl⟩ | h
  · exact h165
  rcases look_cons2 h with ⟨rfl, rfl⟩ | h
  · exact h99
  rcases look_cons2 h with ⟨rfl, rfl⟩ | h
  · exact h106
  rcases look_cons2 h with ⟨rfl, rfl⟩ | h
  · exact h162
  rcases look_cons2 h with ⟨rfl, rfl⟩ | h
  · exact h183
  rcases look_cons2 h with ⟨rfl, rfl⟩ | h
  · exact h211
  rcases look_cons2 h with ⟨rfl, rfl⟩ | h
  · exact h210
  rcases look_cons2 h with ⟨rfl, rfl⟩ | h
  · exact h172
  rcases look_cons2 h with ⟨rfl, rfl⟩ | h
  · exact h170
  rcases look_cons2 h with ⟨rfl, rfl⟩ | h
  · exact h173
  rcases look_cons2 h with ⟨rfl, rfl⟩ | h
  · exact h96
  rcases look_cons2 h with ⟨rfl, rfl⟩ | h
  · exact h49
  rcases look_cons2 h with ⟨rfl, rfl⟩ | h
  · exact h41
  rcases look_cons2 h with ⟨rfl, rfl⟩ | h
  · exact h108
  rcases look_cons2 h with ⟨rfl, rfl⟩ | h
  · exact h104
  rcases look_cons2 h with ⟨rfl, rfl⟩ | h
  · exact h45
  rcases look_cons2 h with ⟨rfl, rfl⟩ | h
  · exact h42
  rcases look_cons2 h with ⟨rfl, rfl⟩ | h
  · exact h166
  cases h
theorem mixed : Try.prog.follows .mixedOrders = true := by kernel_rfl
end Bz
