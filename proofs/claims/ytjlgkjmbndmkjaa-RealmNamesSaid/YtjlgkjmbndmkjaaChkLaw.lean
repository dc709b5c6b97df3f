/- The checks: each function's resolved code is the program's. -/
import Derived.Test.YtjlgkjmbndmkjaaSound24
import Derived.Test.YtjlgkjmbndmkjaaPrim1
import Derived.Test.YtjlgkjmbndmkjaaDev4
import Derived.KernelRfl
import Derived.Test.YtjlgkjmbndmkjaaProg
set_option linter.all false
set_option maxRecDepth 100000
namespace Bz
open Go Go.Proofs
def renT : List (Nat × Nat) := (25, 12) :: (163, 21) :: (167, 67) :: (168, 68) :: (165, 23) :: (164, 29) :: (171, 80) :: (172, 73) :: (170, 117) :: (174, 81) :: (173, 74) :: (221, 119) :: (205, 150) :: (206, 151) :: (169, 120) :: (160, 62) :: (222, 121) :: (185, 122) :: (223, 123) :: (204, 152) :: (176, 61) :: (177, 109) :: (175, 144) :: (158, 147) :: (179, 167) :: (127, 39) :: (135, 92) :: (128, 42) :: (125, 95) :: (129, 93) :: (182, 133) :: (161, 156) :: (213, 173) :: (214, 182) :: (215, 183) :: (210, 116) :: (207, 174) :: (209, 184) :: (208, 188) :: (212, 175) :: (133, 134) :: (180, 157) :: (178, 110) :: (28, 63) :: []
def ren (n : Nat) : Option Nat := look renT n
theorem c25 : FnOk Try.prog ren 12 (.code C.bailifflaw24_RealmNames) := .code (fn := Try.f12) Try.func12 rfl (by kernel_rfl) (by kernel_rfl)
theorem h25 : ∀ x, D 25 = some x → FnOk Try.prog ren 12 x := fun x h => by
  have e : D 25 = some (.code C.bailifflaw24_RealmNames) := by kernel_rfl
  rw [e] at h; cases h; exact c25
theorem c163 : FnOk Try.prog ren 21 (.code C.realm_Native) := .code (fn := Try.f21) Try.func21 rfl (by kernel_rfl) (by kernel_rfl)
theorem h163 : ∀ x, D 163 = some x → FnOk Try.prog ren 21 x := fun x h => by
  have e : D 163 = some (.code C.realm_Native) := by kernel_rfl
  rw [e] at h; cases h; exact c163
theorem c167 : FnOk Try.prog ren 67 (.code C.realm_firsts) := .code (fn := Try.f67) Try.func67 rfl (by kernel_rfl) (by kernel_rfl)
theorem h167 : ∀ x, D 167 = some x → FnOk Try.prog ren 67 x := fun x h => by
  have e : D 167 = some (.code C.realm_firsts) := by kernel_rfl
  rw [e] at h; cases h; exact c167
theorem c168 : FnOk Try.prog ren 68 (.code C.realm_functions) := .code (fn := Try.f68) Try.func68 rfl (by kernel_rfl) (by kernel_rfl)
theorem h168 : ∀ x, D 168 = some x → FnOk Try.prog ren 68 x := fun x h => by
  have e : D 168 = some (.code C.realm_functions) := by kernel_rfl
  rw [e] at h; cases h; exact c168
theorem c165 : FnOk Try.prog ren 23 (.code C.realm_Number) := .code (fn := Try.f23) Try.func23 rfl (by kernel_rfl) (by kernel_rfl)
theorem h165 : ∀ x, D 165 = some x → FnOk Try.prog ren 23 x := fun x h => by
  have e : D 165 = some (.code C.realm_Number) := by kernel_rfl
  rw [e] at h; cases h; exact c165
theorem c164 : FnOk Try.prog ren 29 (.code C.realm_New) := .code (fn := Try.f29) Try.func29 rfl (by kernel_rfl) (by kernel_rfl)
theorem h164 : ∀ x, D 164 = some x → FnOk Try.prog ren 29 x := fun x h => by
  have e : D 164 = some (.code C.realm_New) := by kernel_rfl
  rw [e] at h; cases h; exact c164
theorem c171 : FnOk Try.prog ren 80 (.code C.realm_made) := .code (fn := Try.f80) Try.func80 rfl (by kernel_rfl) (by kernel_rfl)
theorem h171 : ∀ x, D 171 = some x → FnOk Try.prog ren 80 x := fun x h => by
  have e : D 171 = some (.code C.realm_made) := by kernel_rfl
  rw [e] at h; cases h; exact c171
theorem c172 : FnOk Try.prog ren 73 (.code C.realm_object) := .code (fn := Try.f73) Try.func73 rfl (by kernel_rfl) (by kernel_rfl)
theorem h172 : ∀ x, D 172 = some x → FnOk Try.prog ren 73 x := fun x h => by
  have e : D 172 = some (.code C.realm_object) := by kernel_rfl
  rw [e] at h; cases h; exact c172
theorem c170 : FnOk Try.prog ren 117 (.code C.realm_kind) := .code (fn := Try.f117) Try.func117 rfl (by kernel_rfl) (by kernel_rfl)
theorem h170 : ∀ x, D 170 = some x → FnOk Try.prog ren 117 x := fun x h => by
  have e : D 170 = some (.code C.realm_kind) := by kernel_rfl
  rw [e] at h; cases h; exact c170
theorem c174 : FnOk Try.prog ren 81 (.code C.realm_props) := .code (fn := Try.f81) Try.func81 rfl (by kernel_rfl) (by kernel_rfl)
theorem h174 : ∀ x, D 174 = some x → FnOk Try.prog ren 81 x := fun x h => by
  have e : D 174 = some (.code C.realm_props) := by kernel_rfl
  rw [e] at h; cases h; exact c174
theorem c173 : FnOk Try.prog ren 74 (.code C.realm_place) := .code (fn := Try.f74) Try.func74 rfl (by kernel_rfl) (by kernel_rfl)
theorem h173 : ∀ x, D 173 = some x → FnOk Try.prog ren 74 x := fun x h => by
  have e : D 173 = some (.code C.realm_place) := by kernel_rfl
  rw [e] at h; cases h; exact c173
theorem c221 : FnOk Try.prog ren 119 (.code C.strings_CutSuffix) := .code (fn := Try.f119) Try.func119 rfl (by kernel_rfl) (by kernel_rfl)
theorem h221 : ∀ x, D 221 = some x → FnOk Try.prog ren 119 x := fun x h => by
  have e : D 221 = some (.code C.strings_CutSuffix) := by kernel_rfl
  rw [e] at h; cases h; exact c221
theorem c205 : FnOk Try.prog ren 150 (.code C.i_stringslite_CutSuffix) := .code (fn := Try.f150) Try.func150 rfl (by kernel_rfl) (by kernel_rfl)
theorem h205 : ∀ x, D 205 = some x → FnOk Try.prog ren 150 x := fun x h => by
  have e : D 205 = some (.code C.i_stringslite_CutSuffix) := by kernel_rfl
  rw [e] at h; cases h; exact c205
theorem c206 : FnOk Try.prog ren 151 (.code C.i_stringslite_HasSuffix) := .code (fn := Try.f151) Try.func151 rfl (by kernel_rfl) (by kernel_rfl)
theorem h206 : ∀ x, D 206 = some x → FnOk Try.prog ren 151 x := fun x h => by
  have e : D 206 = some (.code C.i_stringslite_HasSuffix) := by kernel_rfl
  rw [e] at h; cases h; exact c206
theorem c169 : FnOk Try.prog ren 120 (.code C.realm_hidden) := .code (fn := Try.f120) Try.func120 rfl (by kernel_rfl) (by kernel_rfl)
theorem h169 : ∀ x, D 169 = some x → FnOk Try.prog ren 120 x := fun x h => by
  have e : D 169 = some (.code C.realm_hidden) := by kernel_rfl
  rw [e] at h; cases h; exact c169
theorem c160 : FnOk Try.prog ren 62 (.code C.key_Of) := .code (fn := Try.f62) Try.func62 rfl (by kernel_rfl) (by kernel_rfl)
theorem h160 : ∀ x, D 160 = some x → FnOk Try.prog ren 62 x := fun x h => by
  have e : D 160 = some (.code C.key_Of) := by kernel_rfl
  rw [e] at h; cases h; exact c160
theorem c222 : FnOk Try.prog ren 121 (.code C.strings_HasSuffix) := .code (fn := Try.f121) Try.func121 rfl (by kernel_rfl) (by kernel_rfl)
theorem h222 : ∀ x, D 222 = some x → FnOk Try.prog ren 121 x := fun x h => by
  have e : D 222 = some (.code C.strings_HasSuffix) := by kernel_rfl
  rw [e] at h; cases h; exact c222
theorem c185 : FnOk Try.prog ren 122 (.code C.value_Str) := .code (fn := Try.f122) Try.func122 rfl (by kernel_rfl) (by kernel_rfl)
theorem h185 : ∀ x, D 185 = some x → FnOk Try.prog ren 122 x := fun x h => by
  have e : D 185 = some (.code C.value_Str) := by kernel_rfl
  rw [e] at h; cases h; exact c185
theorem c223 : FnOk Try.prog ren 123 (.code C.strings_LastIndexByte) := .code (fn := Try.f123) Try.func123 rfl (by kernel_rfl) (by kernel_rfl)
theorem h223 : ∀ x, D 223 = some x → FnOk Try.prog ren 123 x := fun x h => by
  have e : D 223 = some (.code C.strings_LastIndexByte) := by kernel_rfl
  rw [e] at h; cases h; exact c223
theorem c204 : FnOk Try.prog ren 152 (.code C.i_bytealg_LastIndexByteString) := .code (fn := Try.f152) Try.func152 rfl (by kernel_rfl) (by kernel_rfl)
theorem h204 : ∀ x, D 204 = some x → FnOk Try.prog ren 152 x := fun x h => by
  have e : D 204 = some (.code C.i_bytealg_LastIndexByteString) := by kernel_rfl
  rw [e] at h; cases h; exact c204
theorem c176 : FnOk Try.prog ren 61 (.code C.table_Find) := .code (fn := Try.f61) Try.func61 rfl (by kernel_rfl) (by kernel_rfl)
theorem h176 : ∀ x, D 176 = some x → FnOk Try.prog ren 61 x := fun x h => by
  have e : D 176 = some (.code C.table_Find) := by kernel_rfl
  rw [e] at h; cases h; exact c176
theorem c177 : FnOk Try.prog ren 109 (.code C.table_asked) := .code (fn := Try.f109) Try.func109 rfl (by kernel_rfl) (by kernel_rfl)
theorem h177 : ∀ x, D 177 = some x → FnOk Try.prog ren 109 x := fun x h => by
  have e : D 177 = some (.code C.table_asked) := by kernel_rfl
  rw [e] at h; cases h; exact c177
theorem c175 : FnOk Try.prog ren 144 (.code C.table_Check) := .code (fn := Try.f144) Try.func144 rfl (by kernel_rfl) (by kernel_rfl)
theorem h175 : ∀ x, D 175 = some x → FnOk Try.prog ren 144 x := fun x h => by
  have e : D 175 = some (.code C.table_Check) := by kernel_rfl
  rw [e] at h; cases h; exact c175
theorem c158 : FnOk Try.prog ren 147 (.code C.key_Check) := .code (fn := Try.f147) Try.func147 rfl (by kernel_rfl) (by kernel_rfl)
theorem h158 : ∀ x, D 158 = some x → FnOk Try.prog ren 147 x := fun x h => by
  have e : D 158 = some (.code C.key_Check) := by kernel_rfl
  rw [e] at h; cases h; exact c158
theorem c179 : FnOk Try.prog ren 167 (.code C.table_whole) := .code (fn := Try.f167) Try.func167 rfl (by kernel_rfl) (by kernel_rfl)
theorem h179 : ∀ x, D 179 = some x → FnOk Try.prog ren 167 x := fun x h => by
  have e : D 179 = some (.code C.table_whole) := by kernel_rfl
  rw [e] at h; cases h; exact c179
theorem c127 : FnOk Try.prog ren 39 (.code C.desc_Complete) := .code (fn := Try.f39) Try.func39 rfl (by kernel_rfl) (by kernel_rfl)
theorem h127 : ∀ x, D 127 = some x → FnOk Try.prog ren 39 x := fun x h => by
  have e : D 127 = some (.code C.desc_Complete) := by kernel_rfl
  rw [e] at h; cases h; exact c127
theorem c135 : FnOk Try.prog ren 92 (.code C.desc_whole) := .code (fn := Try.f92) Try.func92 rfl (by kernel_rfl) (by kernel_rfl)
theorem h135 : ∀ x, D 135 = some x → FnOk Try.prog ren 92 x := fun x h => by
  have e : D 135 = some (.code C.desc_whole) := by kernel_rfl
  rw [e] at h; cases h; exact c135
theorem c128 : FnOk Try.prog ren 42 (.code C.desc_IsAccess) := .code (fn := Try.f42) Try.func42 rfl (by kernel_rfl) (by kernel_rfl)
theorem h128 : ∀ x, D 128 = some x → FnOk Try.prog ren 42 x := fun x h => by
  have e : D 128 = some (.code C.desc_IsAccess) := by kernel_rfl
  rw [e] at h; cases h; exact c128
theorem c125 : FnOk Try.prog ren 95 (.code C.desc_Check) := .code (fn := Try.f95) Try.func95 rfl (by kernel_rfl) (by kernel_rfl)
theorem h125 : ∀ x, D 125 = some x → FnOk Try.prog ren 95 x := fun x h => by
  have e : D 125 = some (.code C.desc_Check) := by kernel_rfl
  rw [e] at h; cases h; exact c125
theorem c129 : FnOk Try.prog ren 93 (.code C.desc_IsData) := .code (fn := Try.f93) Try.func93 rfl (by kernel_rfl) (by kernel_rfl)
theorem h129 : ∀ x, D 129 = some x → FnOk Try.prog ren 93 x := fun x h => by
  have e : D 129 = some (.code C.desc_IsData) := by kernel_rfl
  rw [e] at h; cases h; exact c129
theorem c182 : FnOk Try.prog ren 133 (.code C.value_May) := .code (fn := Try.f133) Try.func133 rfl (by kernel_rfl) (by kernel_rfl)
theorem h182 : ∀ x, D 182 = some x → FnOk Try.prog ren 133 x := fun x h => by
  have e : D 182 = some (.code C.value_May) := by kernel_rfl
  rw [e] at h; cases h; exact c182
theorem c161 : FnOk Try.prog ren 156 (.code C.num_May) := .code (fn := Try.f156) Try.func156 rfl (by kernel_rfl) (by kernel_rfl)
theorem h161 : ∀ x, D 161 = some x → FnOk Try.prog ren 156 x := fun x h => by
  have e : D 161 = some (.code C.num_May) := by kernel_rfl
  rw [e] at h; cases h; exact c161
theorem c213 : FnOk Try.prog ren 173 (.code C.math_Trunc) := .code (fn := Try.f173) Try.func173 rfl (by kernel_rfl) (by kernel_rfl)
theorem h213 : ∀ x, D 213 = some x → FnOk Try.prog ren 173 x := fun x h => by
  have e : D 213 = some (.code C.math_Trunc) := by kernel_rfl
  rw [e] at h; cases h; exact c213
theorem c214 : FnOk Try.prog ren 182 (.prim P.trunc) := .prim (trunc_ok (fn := Try.f182) Try.func182 rfl rfl rfl rfl)
theorem h214 : ∀ x, D 214 = some x → FnOk Try.prog ren 182 x := fun x h => by
  have e : D 214 = some (.prim P.trunc) := by kernel_rfl
  rw [e] at h; cases h; exact c214
theorem c215 : FnOk Try.prog ren 183 (.code C.math_trunc) := .code (fn := Try.f183) Try.func183 rfl (by kernel_rfl) (by kernel_rfl)
theorem h215 : ∀ x, D 215 = some x → FnOk Try.prog ren 183 x := fun x h => by
  have e : D 215 = some (.code C.math_trunc) := by kernel_rfl
  rw [e] at h; cases h; exact c215
theorem c210 : FnOk Try.prog ren 116 (.prim P.bits2f) := .prim (bits2f_ok (fn := Try.f116) Try.func116 rfl rfl rfl rfl)
theorem h210 : ∀ x, D 210 = some x → FnOk Try.prog ren 116 x := fun x h => by
  have e : D 210 = some (.prim P.bits2f) := by kernel_rfl
  rw [e] at h; cases h; exact c210
theorem c207 : FnOk Try.prog ren 174 (.code C.math_Abs) := .code (fn := Try.f174) Try.func174 rfl (by kernel_rfl) (by kernel_rfl)
theorem h207 : ∀ x, D 207 = some x → FnOk Try.prog ren 174 x := fun x h => by
  have e : D 207 = some (.code C.math_Abs) := by kernel_rfl
  rw [e] at h; cases h; exact c207
theorem c209 : FnOk Try.prog ren 184 (.prim P.f2bits) := .prim (f2bits_ok (fn := Try.f184) Try.func184 rfl rfl rfl rfl)
theorem h209 : ∀ x, D 209 = some x → FnOk Try.prog ren 184 x := fun x h => by
  have e : D 209 = some (.prim P.f2bits) := by kernel_rfl
  rw [e] at h; cases h; exact c209
theorem c208 : FnOk Try.prog ren 188 (.code C.math_Copysign) := .code (fn := Try.f188) Try.func188 rfl (by kernel_rfl) (by kernel_rfl)
theorem h208 : ∀ x, D 208 = some x → FnOk Try.prog ren 188 x := fun x h => by
  have e : D 208 = some (.code C.math_Copysign) := by kernel_rfl
  rw [e] at h; cases h; exact c208
theorem c212 : FnOk Try.prog ren 175 (.code C.math_Signbit) := .code (fn := Try.f175) Try.func175 rfl (by kernel_rfl) (by kernel_rfl)
theorem h212 : ∀ x, D 212 = some x → FnOk Try.prog ren 175 x := fun x h => by
  have e : D 212 = some (.code C.math_Signbit) := by kernel_rfl
  rw [e] at h; cases h; exact c212
theorem c133 : FnOk Try.prog ren 134 (.code C.desc_called) := .code (fn := Try.f134) Try.func134 rfl (by kernel_rfl) (by kernel_rfl)
theorem h133 : ∀ x, D 133 = some x → FnOk Try.prog ren 134 x := fun x h => by
  have e : D 133 = some (.code C.desc_called) := by kernel_rfl
  rw [e] at h; cases h; exact c133
theorem c180 : FnOk Try.prog ren 157 (.code C.value_Calls) := .code (fn := Try.f157) Try.func157 rfl (by kernel_rfl) (by kernel_rfl)
theorem h180 : ∀ x, D 180 = some x → FnOk Try.prog ren 157 x := fun x h => by
  have e : D 180 = some (.code C.value_Calls) := by kernel_rfl
  rw [e] at h; cases h; exact c180
theorem c178 : FnOk Try.prog ren 110 (.code C.table_at) := .code (fn := Try.f110) Try.func110 rfl (by kernel_rfl) (by kernel_rfl)
theorem h178 : ∀ x, D 178 = some x → FnOk Try.prog ren 110 x := fun x h => by
  have e : D 178 = some (.code C.table_at) := by kernel_rfl
  rw [e] at h; cases h; exact c178
theorem c28 : FnOk Try.prog ren 63 (.code C.bailifflaw24_alive) := .code (fn := Try.f63) Try.func63 rfl (by kernel_rfl) (by kernel_rfl)
theorem h28 : ∀ x, D 28 = some x → FnOk Try.prog ren 63 x := fun x h => by
  have e : D 28 = some (.code C.bailifflaw24_alive) := by kernel_rfl
  rw [e] at h; cases h; exact c28
theorem look_cons2 {a b f g : Nat} {l : List (Nat × Nat)} (h : look ((a, b) :: l) f = some g) : (f = a ∧ g = b) ∨ look l f = some g := by
  simp only [look] at h
  cases e : Nat.beq a f with
  | true => rw [e] at h; cases h; exact .inl ⟨(Nat.eq_of_beq_eq_true e).symm, rfl⟩
  | false => rw [e] at h; exact .inr h
theorem hall : ∀ f g, ren f = some g → ∀ x, D f = some x → FnOk Try.prog ren g x := by
  intro f g h
  unfold ren renT at h
  rcases look_cons2 h with ⟨rfl, rfl⟩ | h
  · exact h25
  rcases look_cons2 h with ⟨rfl, rfl⟩ | h
  · exact h163
  rcases look_cons2 h with ⟨rfl, rfl⟩ | h
  · exact h167
  rcases look_cons2 h with ⟨rfl, rfl⟩ | h
  · exact h168
  rcases look_cons2 h with ⟨rfl, rfl⟩ | h
  · exact h165
  rcases look_cons2 h with ⟨rfl, rfl⟩ | h
  · exact h164
  rcases look_cons2 h with ⟨rfl, rfl⟩ | h
  · exact h171
  rcases look_cons2 h with ⟨rfl, rfl⟩ | h
  · exact h172
  rcases look_cons2 h with ⟨rfl, rfl⟩ | h
  · exact h170
  rcases look_cons2 h with ⟨rfl, rfl⟩ | h
  · exact h174
  rcases look_cons2 h with ⟨rfl, rfl⟩ | h
  · exact h173
  rcases look_cons2 h with ⟨rfl, rfl⟩ | h
  · exact h221
  rcases look_cons2 h with ⟨rfl, rfl⟩ | h
  · exact h205
  rcases look_cons2 h with ⟨rfl, rfl⟩ | h
  · exact h206
  rcases look_cons2 h with ⟨rfl, rfl⟩ | h
  · exact h169
  rcases look_cons2 h with ⟨rfl, rfl⟩ | h
  · exact h160
  rcases look_cons2 h with ⟨rfl, rfl⟩ | h
  · exact h222
  rcases look_cons2 h with ⟨rfl, rfl⟩ | h
  · exact h185
  rcases look_cons2 h with ⟨rfl, rfl⟩ | h
  · exact h223
  rcases look_cons2 h with ⟨rfl, rfl⟩ | h
  · exact h204
  rcases look_cons2 h with ⟨rfl, rfl⟩ | h
  · exact h176
  rcases look_cons2 h with ⟨rfl, rfl⟩ | h
  · exact h177
  rcases look_cons2 h with ⟨rfl, rfl⟩ | h
  · exact h175
  rcases look_cons2 h with ⟨rfl, rfl⟩ | h
  · exact h158
  rcases look_cons2 h with ⟨rfl, rfl⟩ | h
  · exact h179
  rcases look_cons2 h with ⟨rfl, rfl⟩ | h
  · exact h127
  rcases look_cons2 h with ⟨rfl, rfl⟩ | h
  · exact h135
  rcases look_cons2 h with ⟨rfl, rfl⟩ | h
  · exact h128
  rcases look_cons2 h with ⟨rfl, rfl⟩ | h
  · exact h125
  rcases look_cons2 h with ⟨rfl, rfl⟩ | h
  · exact h129
  rcases look_cons2 h with ⟨rfl, rfl⟩ | h
  · exact h182
  rcases look_cons2 h with ⟨rfl, rfl⟩ | h
  · exact h161
  rcases look_cons2 h with ⟨rfl, rfl⟩ | h
  · exact h213
  rcases look_cons2 h with ⟨rfl, rfl⟩ | h
  · exact h214
  rcases look_cons2 h with ⟨rfl, rfl⟩ | h
  · exact h215
  rcases look_cons2 h with ⟨rfl, rfl⟩ | h
  · exact h210
  rcases look_cons2 h with ⟨rfl, rfl⟩ | h
  · exact h207
  rcases look_cons2 h with ⟨rfl, rfl⟩ | h
  · exact h209
  rcases look_cons2 h with ⟨rfl, rfl⟩ | h
  · exact h208
  rcases look_cons2 h with ⟨rfl, rfl⟩ | h
  · exact h212
  rcases look_cons2 h with ⟨rfl, rfl⟩ | h
  · exact h133
  rcases look_cons2 h with ⟨rfl, rfl⟩ | h
  · exact h180
  rcases look_cons2 h with ⟨rfl, rfl⟩ | h
  · exact h178
  rcases look_cons2 h with ⟨rfl, rfl⟩ | h
  · exact h28
  cases h
theorem mixed : Try.prog.follows .mixedOrders = true := by kernel_rfl
end Bz
