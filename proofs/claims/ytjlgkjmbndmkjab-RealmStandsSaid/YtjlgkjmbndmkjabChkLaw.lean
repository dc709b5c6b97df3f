/- The checks: each function's resolved code is the program's. -/
import Derived.Test.YtjlgkjmbndmkjabSound24
import Derived.Test.YtjlgkjmbndmkjabSoundC
import Derived.Test.YtjlgkjmbndmkjabDev4
import Derived.KernelRfl
import Derived.Test.YtjlgkjmbndmkjabProg
set_option linter.all false
set_option maxRecDepth 100000
namespace Bz
open Go Go.Proofs
theorem mixed : Try.prog.follows .mixedOrders = true := by kernel_rfl
def renT : List (Nat × Nat) := (26, 9) :: (136, 12) :: (155, 41) :: (181, 38) :: (157, 63) :: (150, 64) :: (182, 81) :: (161, 93) :: (213, 96) :: (214, 101) :: (215, 102) :: (210, 92) :: (207, 97) :: (209, 103) :: (208, 106) :: (212, 98) :: (152, 82) :: (151, 65) :: (175, 66) :: (158, 80) :: (179, 83) :: (127, 94) :: (125, 99) :: (129, 84) :: (128, 104) :: (133, 105) :: (180, 107) :: (135, 100) :: (146, 67) :: (160, 37) :: (217, 85) :: (220, 95) :: (147, 86) :: (159, 87) :: (148, 68) :: (149, 88) :: (154, 42) :: (164, 31) :: (167, 54) :: (168, 55) :: (171, 56) :: (172, 70) :: (170, 71) :: (174, 57) :: (221, 72) :: (205, 89) :: (206, 90) :: (173, 73) :: (169, 74) :: (222, 75) :: (185, 76) :: (223, 77) :: (204, 91) :: (28, 32) :: (163, 33) :: (165, 34) :: (29, 35) :: (176, 36) :: (177, 60) :: (178, 61) :: (30, 58) :: (162, 59) :: (183, 78) :: (211, 79) :: []
def ren (n : Nat) : Option Nat := look renT n
theorem c26 : FnOk Try.prog ren 9 (.code C.bailifflaw24_RealmStands) := .code (fn := Try.f9) Try.func9 rfl (by kernel_rfl) (by kernel_rfl)
theorem h26 : ∀ x, D 26 = some x → FnOk Try.prog ren 9 x := fun x h => by
  have e : D 26 = some (.code C.bailifflaw24_RealmStands) := by kernel_rfl
  rw [e] at h; cases h; exact c26
theorem c136 : FnOk Try.prog ren 12 (.code C.heap_Check) := .code (fn := Try.f12) Try.func12 rfl (by kernel_rfl) (by kernel_rfl)
theorem h136 : ∀ x, D 136 = some x → FnOk Try.prog ren 12 x := fun x h => by
  have e : D 136 = some (.code C.heap_Check) := by kernel_rfl
  rw [e] at h; cases h; exact c136
theorem c155 : FnOk Try.prog ren 41 (.code C.heap_object) := .code (fn := Try.f41) Try.func41 rfl (by kernel_rfl) (by kernel_rfl)
theorem h155 : ∀ x, D 155 = some x → FnOk Try.prog ren 41 x := fun x h => by
  have e : D 155 = some (.code C.heap_object) := by kernel_rfl
  rw [e] at h; cases h; exact c155
theorem c181 : FnOk Try.prog ren 38 (.code C.value_IsObject) := .code (fn := Try.f38) Try.func38 rfl (by kernel_rfl) (by kernel_rfl)
theorem h181 : ∀ x, D 181 = some x → FnOk Try.prog ren 38 x := fun x h => by
  have e : D 181 = some (.code C.value_IsObject) := by kernel_rfl
  rw [e] at h; cases h; exact c181
theorem c157 : FnOk Try.prog ren 63 (.code C.heap_proxy) := .code (fn := Try.f63) Try.func63 rfl (by kernel_rfl) (by kernel_rfl)
theorem h157 : ∀ x, D 157 = some x → FnOk Try.prog ren 63 x := fun x h => by
  have e : D 157 = some (.code C.heap_proxy) := by kernel_rfl
  rw [e] at h; cases h; exact c157
theorem c150 : FnOk Try.prog ren 64 (.code C.heap_in) := .code (fn := Try.f64) Try.func64 rfl (by kernel_rfl) (by kernel_rfl)
theorem h150 : ∀ x, D 150 = some x → FnOk Try.prog ren 64 x := fun x h => by
  have e : D 150 = some (.code C.heap_in) := by kernel_rfl
  rw [e] at h; cases h; exact c150
theorem c182 : FnOk Try.prog ren 81 (.code C.value_May) := .code (fn := Try.f81) Try.func81 rfl (by kernel_rfl) (by kernel_rfl)
theorem h182 : ∀ x, D 182 = some x → FnOk Try.prog ren 81 x := fun x h => by
  have e : D 182 = some (.code C.value_May) := by kernel_rfl
  rw [e] at h; cases h; exact c182
theorem c161 : FnOk Try.prog ren 93 (.code C.num_May) := .code (fn := Try.f93) Try.func93 rfl (by kernel_rfl) (by kernel_rfl)
theorem h161 : ∀ x, D 161 = some x → FnOk Try.prog ren 93 x := fun x h => by
  have e : D 161 = some (.code C.num_May) := by kernel_rfl
  rw [e] at h; cases h; exact c161
theorem c213 : FnOk Try.prog ren 96 (.code C.math_Trunc) := .code (fn := Try.f96) Try.func96 rfl (by kernel_rfl) (by kernel_rfl)
theorem h213 : ∀ x, D 213 = some x → FnOk Try.prog ren 96 x := fun x h => by
  have e : D 213 = some (.code C.math_Trunc) := by kernel_rfl
  rw [e] at h; cases h; exact c213
theorem c214 : FnOk Try.prog ren 101 (.prim P.trunc) := .prim (trunc_ok (fn := Try.f101) Try.func101 rfl rfl rfl rfl)
theorem h214 : ∀ x, D 214 = some x → FnOk Try.prog ren 101 x := fun x h => by
  have e : D 214 = some (.prim P.trunc) := by kernel_rfl
  rw [e] at h; cases h; exact c214
theorem c215 : FnOk Try.prog ren 102 (.code C.math_trunc) := .code (fn := Try.f102) Try.func102 rfl (by kernel_rfl) (by kernel_rfl)
theorem h215 : ∀ x, D 215 = some x → FnOk Try.prog ren 102 x := fun x h => by
  have e : D 215 = some (.code C.math_trunc) := by kernel_rfl
  rw [e] at h; cases h; exact c215
theorem c210 : FnOk Try.prog ren 92 (.prim P.bits2f) := .prim (bits2f_ok (fn := Try.f92) Try.func92 rfl rfl rfl rfl)
theorem h210 : ∀ x, D 210 = some x → FnOk Try.prog ren 92 x := fun x h => by
  have e : D 210 = some (.prim P.bits2f) := by kernel_rfl
  rw [e] at h; cases h; exact c210
theorem c207 : FnOk Try.prog ren 97 (.code C.math_Abs) := .code (fn := Try.f97) Try.func97 rfl (by kernel_rfl) (by kernel_rfl)
theorem h207 : ∀ x, D 207 = some x → FnOk Try.prog ren 97 x := fun x h => by
  have e : D 207 = some (.code C.math_Abs) := by kernel_rfl
  rw [e] at h; cases h; exact c207
theorem c209 : FnOk Try.prog ren 103 (.prim P.f2bits) := .prim (f2bits_ok (fn := Try.f103) Try.func103 rfl rfl rfl rfl)
theorem h209 : ∀ x, D 209 = some x → FnOk Try.prog ren 103 x := fun x h => by
  have e : D 209 = some (.prim P.f2bits) := by kernel_rfl
  rw [e] at h; cases h; exact c209
theorem c208 : FnOk Try.prog ren 106 (.code C.math_Copysign) := .code (fn := Try.f106) Try.func106 rfl (by kernel_rfl) (by kernel_rfl)
theorem h208 : ∀ x, D 208 = some x → FnOk Try.prog ren 106 x := fun x h => by
  have e : D 208 = some (.code C.math_Copysign) := by kernel_rfl
  rw [e] at h; cases h; exact c208
theorem c212 : FnOk Try.prog ren 98 (.code C.math_Signbit) := .code (fn := Try.f98) Try.func98 rfl (by kernel_rfl) (by kernel_rfl)
theorem h212 : ∀ x, D 212 = some x → FnOk Try.prog ren 98 x := fun x h => by
  have e : D 212 = some (.code C.math_Signbit) := by kernel_rfl
  rw [e] at h; cases h; exact c212
theorem c152 : FnOk Try.prog ren 82 (.code C.heap_kind) := .code (fn := Try.f82) Try.func82 rfl (by kernel_rfl) (by kernel_rfl)
theorem h152 : ∀ x, D 152 = some x → FnOk Try.prog ren 82 x := fun x h => by
  have e : D 152 = some (.code C.heap_kind) := by kernel_rfl
  rw [e] at h; cases h; exact c152
theorem c151 : FnOk Try.prog ren 65 (.code C.heap_is) := .code (fn := Try.f65) Try.func65 rfl (by kernel_rfl) (by kernel_rfl)
theorem h151 : ∀ x, D 151 = some x → FnOk Try.prog ren 65 x := fun x h => by
  have e : D 151 = some (.code C.heap_is) := by kernel_rfl
  rw [e] at h; cases h; exact c151
theorem c175 : FnOk Try.prog ren 66 (.code C.table_Check) := .code (fn := Try.f66) Try.func66 rfl (by kernel_rfl) (by kernel_rfl)
theorem h175 : ∀ x, D 175 = some x → FnOk Try.prog ren 66 x := fun x h => by
  have e : D 175 = some (.code C.table_Check) := by kernel_rfl
  rw [e] at h; cases h; exact c175
theorem c158 : FnOk Try.prog ren 80 (.code C.key_Check) := .code (fn := Try.f80) Try.func80 rfl (by kernel_rfl) (by kernel_rfl)
theorem h158 : ∀ x, D 158 = some x → FnOk Try.prog ren 80 x := fun x h => by
  have e : D 158 = some (.code C.key_Check) := by kernel_rfl
  rw [e] at h; cases h; exact c158
theorem c179 : FnOk Try.prog ren 83 (.code C.table_whole) := .code (fn := Try.f83) Try.func83 rfl (by kernel_rfl) (by kernel_rfl)
theorem h179 : ∀ x, D 179 = some x → FnOk Try.prog ren 83 x := fun x h => by
  have e : D 179 = some (.code C.table_whole) := by kernel_rfl
  rw [e] at h; cases h; exact c179
theorem c127 : FnOk Try.prog ren 94 (.code C.desc_Complete) := .code (fn := Try.f94) Try.func94 rfl (by kernel_rfl) (by kernel_rfl)
theorem h127 : ∀ x, D 127 = some x → FnOk Try.prog ren 94 x := fun x h => by
  have e : D 127 = some (.code C.desc_Complete) := by kernel_rfl
  rw [e] at h; cases h; exact c127
theorem c125 : FnOk Try.prog ren 99 (.code C.desc_Check) := .code (fn := Try.f99) Try.func99 rfl (by kernel_rfl) (by kernel_rfl)
theorem h125 : ∀ x, D 125 = some x → FnOk Try.prog ren 99 x := fun x h => by
  have e : D 125 = some (.code C.desc_Check) := by kernel_rfl
  rw [e] at h; cases h; exact c125
theorem c129 : FnOk Try.prog ren 84 (.code C.desc_IsData) := .code (fn := Try.f84) Try.func84 rfl (by kernel_rfl) (by kernel_rfl)
theorem h129 : ∀ x, D 129 = some x → FnOk Try.prog ren 84 x := fun x h => by
  have e : D 129 = some (.code C.desc_IsData) := by kernel_rfl
  rw [e] at h; cases h; exact c129
theorem c128 : FnOk Try.prog ren 104 (.code C.desc_IsAccess) := .code (fn := Try.f104) Try.func104 rfl (by kernel_rfl) (by kernel_rfl)
theorem h128 : ∀ x, D 128 = some x → FnOk Try.prog ren 104 x := fun x h => by
  have e : D 128 = some (.code C.desc_IsAccess) := by kernel_rfl
  rw [e] at h; cases h; exact c128
theorem c133 : FnOk Try.prog ren 105 (.code C.desc_called) := .code (fn := Try.f105) Try.func105 rfl (by kernel_rfl) (by kernel_rfl)
theorem h133 : ∀ x, D 133 = some x → FnOk Try.prog ren 105 x := fun x h => by
  have e : D 133 = some (.code C.desc_called) := by kernel_rfl
  rw [e] at h; cases h; exact c133
theorem c180 : FnOk Try.prog ren 107 (.code C.value_Calls) := .code (fn := Try.f107) Try.func107 rfl (by kernel_rfl) (by kernel_rfl)
theorem h180 : ∀ x, D 180 = some x → FnOk Try.prog ren 107 x := fun x h => by
  have e : D 180 = some (.code C.value_Calls) := by kernel_rfl
  rw [e] at h; cases h; exact c180
theorem c135 : FnOk Try.prog ren 100 (.code C.desc_whole) := .code (fn := Try.f100) Try.func100 rfl (by kernel_rfl) (by kernel_rfl)
theorem h135 : ∀ x, D 135 = some x → FnOk Try.prog ren 100 x := fun x h => by
  have e : D 135 = some (.code C.desc_whole) := by kernel_rfl
  rw [e] at h; cases h; exact c135
theorem c146 : FnOk Try.prog ren 67 (.code C.heap_array) := .code (fn := Try.f67) Try.func67 rfl (by kernel_rfl) (by kernel_rfl)
theorem h146 : ∀ x, D 146 = some x → FnOk Try.prog ren 67 x := fun x h => by
  have e : D 146 = some (.code C.heap_array) := by kernel_rfl
  rw [e] at h; cases h; exact c146
theorem c160 : FnOk Try.prog ren 37 (.code C.key_Of) := .code (fn := Try.f37) Try.func37 rfl (by kernel_rfl) (by kernel_rfl)
theorem h160 : ∀ x, D 160 = some x → FnOk Try.prog ren 37 x := fun x h => by
  have e : D 160 = some (.code C.key_Of) := by kernel_rfl
  rw [e] at h; cases h; exact c160
theorem c217 : FnOk Try.prog ren 85 (.code C.slices_ContainsFunc_Sapi_Prop_api_Prop) := .code (fn := Try.f85) Try.func85 rfl (by kernel_rfl) (by kernel_rfl)
theorem h217 : ∀ x, D 217 = some x → FnOk Try.prog ren 85 x := fun x h => by
  have e : D 217 = some (.code C.slices_ContainsFunc_Sapi_Prop_api_Prop) := by kernel_rfl
  rw [e] at h; cases h; exact c217
theorem c220 : FnOk Try.prog ren 95 (.code C.slices_IndexFunc_Sapi_Prop_api_Prop) := .code (fn := Try.f95) Try.func95 rfl (by kernel_rfl) (by kernel_rfl)
theorem h220 : ∀ x, D 220 = some x → FnOk Try.prog ren 95 x := fun x h => by
  have e : D 220 = some (.code C.slices_IndexFunc_Sapi_Prop_api_Prop) := by kernel_rfl
  rw [e] at h; cases h; exact c220
theorem c147 : FnOk Try.prog ren 86 (.code C.heap_array_1) := .code (fn := Try.f86) Try.func86 rfl (by kernel_rfl) (by kernel_rfl)
theorem h147 : ∀ x, D 147 = some x → FnOk Try.prog ren 86 x := fun x h => by
  have e : D 147 = some (.code C.heap_array_1) := by kernel_rfl
  rw [e] at h; cases h; exact c147
theorem c159 : FnOk Try.prog ren 87 (.code C.key_Index) := .code (fn := Try.f87) Try.func87 rfl (by kernel_rfl) (by kernel_rfl)
theorem h159 : ∀ x, D 159 = some x → FnOk Try.prog ren 87 x := fun x h => by
  have e : D 159 = some (.code C.key_Index) := by kernel_rfl
  rw [e] at h; cases h; exact c159
theorem c148 : FnOk Try.prog ren 68 (.code C.heap_boxed) := .code (fn := Try.f68) Try.func68 rfl (by kernel_rfl) (by kernel_rfl)
theorem h148 : ∀ x, D 148 = some x → FnOk Try.prog ren 68 x := fun x h => by
  have e : D 148 = some (.code C.heap_boxed) := by kernel_rfl
  rw [e] at h; cases h; exact c148
theorem c149 : FnOk Try.prog ren 88 (.code C.heap_boxed_1) := .code (fn := Try.f88) Try.func88 rfl (by kernel_rfl) (by kernel_rfl)
theorem h149 : ∀ x, D 149 = some x → FnOk Try.prog ren 88 x := fun x h => by
  have e : D 149 = some (.code C.heap_boxed_1) := by kernel_rfl
  rw [e] at h; cases h; exact c149
theorem c154 : FnOk Try.prog ren 42 (.code C.heap_loops) := .code (fn := Try.f42) Try.func42 rfl (by kernel_rfl) (by kernel_rfl)
theorem h154 : ∀ x, D 154 = some x → FnOk Try.prog ren 42 x := fun x h => by
  have e : D 154 = some (.code C.heap_loops) := by kernel_rfl
  rw [e] at h; cases h; exact c154
theorem c164 : FnOk Try.prog ren 31 (.code C.realm_New) := .code (fn := Try.f31) Try.func31 rfl (by kernel_rfl) (by kernel_rfl)
theorem h164 : ∀ x, D 164 = some x → FnOk Try.prog ren 31 x := fun x h => by
  have e : D 164 = some (.code C.realm_New) := by kernel_rfl
  rw [e] at h; cases h; exact c164
theorem c167 : FnOk Try.prog ren 54 (.code C.realm_firsts) := .code (fn := Try.f54) Try.func54 rfl (by kernel_rfl) (by kernel_rfl)
theorem h167 : ∀ x, D 167 = some x → FnOk Try.prog ren 54 x := fun x h => by
  have e : D 167 = some (.code C.realm_firsts) := by kernel_rfl
  rw [e] at h; cases h; exact c167
theorem c168 : FnOk Try.prog ren 55 (.code C.realm_functions) := .code (fn := Try.f55) Try.func55 rfl (by kernel_rfl) (by kernel_rfl)
theorem h168 : ∀ x, D 168 = some x → FnOk Try.prog ren 55 x := fun x h => by
  have e : D 168 = some (.code C.realm_functions) := by kernel_rfl
  rw [e] at h; cases h; exact c168
theorem c171 : FnOk Try.prog ren 56 (.code C.realm_made) := .code (fn := Try.f56) Try.func56 rfl (by kernel_rfl) (by kernel_rfl)
theorem h171 : ∀ x, D 171 = some x → FnOk Try.prog ren 56 x := fun x h => by
  have e : D 171 = some (.code C.realm_made) := by kernel_rfl
  rw [e] at h; cases h; exact c171
theorem c172 : FnOk Try.prog ren 70 (.code C.realm_object) := .code (fn := Try.f70) Try.func70 rfl (by kernel_rfl) (by kernel_rfl)
theorem h172 : ∀ x, D 172 = some x → FnOk Try.prog ren 70 x := fun x h => by
  have e : D 172 = some (.code C.realm_object) := by kernel_rfl
  rw [e] at h; cases h; exact c172
theorem c170 : FnOk Try.prog ren 71 (.code C.realm_kind) := .code (fn := Try.f71) Try.func71 rfl (by kernel_rfl) (by kernel_rfl)
theorem h170 : ∀ x, D 170 = some x → FnOk Try.prog ren 71 x := fun x h => by
  have e : D 170 = some (.code C.realm_kind) := by kernel_rfl
  rw [e] at h; cases h; exact c170
theorem c174 : FnOk Try.prog ren 57 (.code C.realm_props) := .code (fn := Try.f57) Try.func57 rfl (by kernel_rfl) (by kernel_rfl)
theorem h174 : ∀ x, D 174 = some x → FnOk Try.prog ren 57 x := fun x h => by
  have e : D 174 = some (.code C.realm_props) := by kernel_rfl
  rw [e] at h; cases h; exact c174
theorem c221 : FnOk Try.prog ren 72 (.code C.strings_CutSuffix) := .code (fn := Try.f72) Try.func72 rfl (by kernel_rfl) (by kernel_rfl)
theorem h221 : ∀ x, D 221 = some x → FnOk Try.prog ren 72 x := fun x h => by
  have e : D 221 = some (.code C.strings_CutSuffix) := by kernel_rfl
  rw [e] at h; cases h; exact c221
theorem c205 : FnOk Try.prog ren 89 (.code C.i_stringslite_CutSuffix) := .code (fn := Try.f89) Try.func89 rfl (by kernel_rfl) (by kernel_rfl)
theorem h205 : ∀ x, D 205 = some x → FnOk Try.prog ren 89 x := fun x h => by
  have e : D 205 = some (.code C.i_stringslite_CutSuffix) := by kernel_rfl
  rw [e] at h; cases h; exact c205
theorem c206 : FnOk Try.prog ren 90 (.code C.i_stringslite_HasSuffix) := .code (fn := Try.f90) Try.func90 rfl (by kernel_rfl) (by kernel_rfl)
theorem h206 : ∀ x, D 206 = some x → FnOk Try.prog ren 90 x := fun x h => by
  have e : D 206 = some (.code C.i_stringslite_HasSuffix) := by kernel_rfl
  rw [e] at h; cases h; exact c206
theorem c173 : FnOk Try.prog ren 73 (.code C.realm_place) := .code (fn := Try.f73) Try.func73 rfl (by kernel_rfl) (by kernel_rfl)
theorem h173 : ∀ x, D 173 = some x → FnOk Try.prog ren 73 x := fun x h => by
  have e : D 173 = some (.code C.realm_place) := by kernel_rfl
  rw [e] at h; cases h; exact c173
theorem c169 : FnOk Try.prog ren 74 (.code C.realm_hidden) := .code (fn := Try.f74) Try.func74 rfl (by kernel_rfl) (by kernel_rfl)
theorem h169 : ∀ x, D 169 = some x → FnOk Try.prog ren 74 x := fun x h => by
  have e : D 169 = some (.code C.realm_hidden) := by kernel_rfl
  rw [e] at h; cases h; exact c169
theorem c222 : FnOk Try.prog ren 75 (.code C.strings_HasSuffix) := .code (fn := Try.f75) Try.func75 rfl (by kernel_rfl) (by kernel_rfl)
theorem h222 : ∀ x, D 222 = some x → FnOk Try.prog ren 75 x := fun x h => by
  have e : D 222 = some (.code C.strings_HasSuffix) := by kernel_rfl
  rw [e] at h; cases h; exact c222
theorem c185 : FnOk Try.prog ren 76 (.code C.value_Str) := .code (fn := Try.f76) Try.func76 rfl (by kernel_rfl) (by kernel_rfl)
theorem h185 : ∀ x, D 185 = some x → FnOk Try.prog ren 76 x := fun x h => by
  have e : D 185 = some (.code C.value_Str) := by kernel_rfl
  rw [e] at h; cases h; exact c185
theorem c223 : FnOk Try.prog ren 77 (.code C.strings_LastIndexByte) := .code (fn := Try.f77) Try.func77 rfl (by kernel_rfl) (by kernel_rfl)
theorem h223 : ∀ x, D 223 = some x → FnOk Try.prog ren 77 x := fun x h => by
  have e : D 223 = some (.code C.strings_LastIndexByte) := by kernel_rfl
  rw [e] at h; cases h; exact c223
theorem c204 : FnOk Try.prog ren 91 (.code C.i_bytealg_LastIndexByteString) := .code (fn := Try.f91) Try.func91 rfl (by kernel_rfl) (by kernel_rfl)
theorem h204 : ∀ x, D 204 = some x → FnOk Try.prog ren 91 x := fun x h => by
  have e : D 204 = some (.code C.i_bytealg_LastIndexByteString) := by kernel_rfl
  rw [e] at h; cases h; exact c204
theorem c28 : FnOk Try.prog ren 32 (.code C.bailifflaw24_alive) := .code (fn := Try.f32) Try.func32 rfl (by kernel_rfl) (by kernel_rfl)
theorem h28 : ∀ x, D 28 = some x → FnOk Try.prog ren 32 x := fun x h => by
  have e : D 28 = some (.code C.bailifflaw24_alive) := by kernel_rfl
  rw [e] at h; cases h; exact c28
theorem c163 : FnOk Try.prog ren 33 (.code C.realm_Native) := .code (fn := Try.f33) Try.func33 rfl (by kernel_rfl) (by kernel_rfl)
theorem h163 : ∀ x, D 163 = some x → FnOk Try.prog ren 33 x := fun x h => by
  have e : D 163 = some (.code C.realm_Native) := by kernel_rfl
  rw [e] at h; cases h; exact c163
theorem c165 : FnOk Try.prog ren 34 (.code C.realm_Number) := .code (fn := Try.f34) Try.func34 rfl (by kernel_rfl) (by kernel_rfl)
theorem h165 : ∀ x, D 165 = some x → FnOk Try.prog ren 34 x := fun x h => by
  have e : D 165 = some (.code C.realm_Number) := by kernel_rfl
  rw [e] at h; cases h; exact c165
theorem c29 : FnOk Try.prog ren 35 (.code C.bailifflaw24_found) := .code (fn := Try.f35) Try.func35 rfl (by kernel_rfl) (by kernel_rfl)
theorem h29 : ∀ x, D 29 = some x → FnOk Try.prog ren 35 x := fun x h => by
  have e : D 29 = some (.code C.bailifflaw24_found) := by kernel_rfl
  rw [e] at h; cases h; exact c29
theorem c176 : FnOk Try.prog ren 36 (.code C.table_Find) := .code (fn := Try.f36) Try.func36 rfl (by kernel_rfl) (by kernel_rfl)
theorem h176 : ∀ x, D 176 = some x → FnOk Try.prog ren 36 x := fun x h => by
  have e : D 176 = some (.code C.table_Find) := by kernel_rfl
  rw [e] at h; cases h; exact c176
theorem c177 : FnOk Try.prog ren 60 (.code C.table_asked) := .code (fn := Try.f60) Try.func60 rfl (by kernel_rfl) (by kernel_rfl)
theorem h177 : ∀ x, D 177 = some x → FnOk Try.prog ren 60 x := fun x h => by
  have e : D 177 = some (.code C.table_asked) := by kernel_rfl
  rw [e] at h; cases h; exact c177
theorem c178 : FnOk Try.prog ren 61 (.code C.table_at) := .code (fn := Try.f61) Try.func61 rfl (by kernel_rfl) (by kernel_rfl)
theorem h178 : ∀ x, D 178 = some x → FnOk Try.prog ren 61 x := fun x h => by
  have e : D 178 = some (.code C.table_at) := by kernel_rfl
  rw [e] at h; cases h; exact c178
theorem c30 : FnOk Try.prog ren 58 (.code C.bailifflaw24_owner) := .code (fn := Try.f58) Try.func58 rfl (by kernel_rfl) (by kernel_rfl)
theorem h30 : ∀ x, D 30 = some x → FnOk Try.prog ren 58 x := fun x h => by
  have e : D 30 = some (.code C.bailifflaw24_owner) := by kernel_rfl
  rw [e] at h; cases h; exact c30
theorem c162 : FnOk Try.prog ren 59 (.code C.realm_Names) := .code (fn := Try.f59) Try.func59 rfl (by kernel_rfl) (by kernel_rfl)
theorem h162 : ∀ x, D 162 = some x → FnOk Try.prog ren 59 x := fun x h => by
  have e : D 162 = some (.code C.realm_Names) := by kernel_rfl
  rw [e] at h; cases h; exact c162
theorem c183 : FnOk Try.prog ren 78 (.code C.value_Num) := .code (fn := Try.f78) Try.func78 rfl (by kernel_rfl) (by kernel_rfl)
theorem h183 : ∀ x, D 183 = some x → FnOk Try.prog ren 78 x := fun x h => by
  have e : D 183 = some (.code C.value_Num) := by kernel_rfl
  rw [e] at h; cases h; exact c183
theorem c211 : FnOk Try.prog ren 79 (.code C.math_NaN) := .code (fn := Try.f79) Try.func79 rfl (by kernel_rfl) (by kernel_rfl)
theorem h211 : ∀ x, D 211 = some x → FnOk Try.prog ren 79 x := fun x h => by
  have e : D 211 = some (.code C.math_NaN) := by kernel_rfl
  rw [e] at h; cases h; exact c211
theorem look_cons2 {a b f g : Nat} {l : List (Nat × Nat)} (h : look ((a, b) :: l) f = some g) : (f = a ∧ g = b) ∨ look l f = some g := by
  simp only [look] at h
  cases e : Nat.beq a f with
  | true => rw [e] at h; cases h; exact .inl ⟨(Nat.eq_of_beq_eq_true e).symm, rfl⟩
  | false => rw [e] at h; exact .inr h
theorem hall : ∀ f g, ren f = some g → ∀ x, D f = some x → FnOk Try.prog ren g x := by
  intro f g h
  unfold ren renT at h
  rcases look_cons2 h with ⟨rfl, rfl⟩ | h
  · exact h26
  rcases look_cons2 h with ⟨rfl, rfl⟩ | h
  · exact h136
  rcases look_cons2 h with ⟨rfl, rfl⟩ | h
  · exact h155
  rcases look_cons2 h with ⟨rfl, rfl⟩ | h
  · exact h181
  rcases look_cons2 h with ⟨rfl, rfl⟩ | h
  · exact h157
  rcases look_cons2 h with ⟨rfl, rfl⟩ | h
  · exact h150
  rcases look_cons2 h with ⟨rfl, rfl⟩ | h
  · exact h182
  rcases look_cons2 h with ⟨rfl, rfl⟩ | h
  · exact h161
  rcases look_cons2 h with ⟨rfl, rfl⟩ | h
  · exact h213
  rcases look_cons2 h with ⟨rfl, rfl⟩ | h
  · exact h214
  rcases look_cons2 h with ⟨rfl, rfl⟩ | h
  · exact h215
  rcases look_cons2 h with ⟨rfl, rfl⟩ | h
  · exact h210
  rcases look_cons2 h with ⟨rfl, rfl⟩ | h
  · exact h207
  rcases look_cons2 h with ⟨rfl, rfl⟩ | h
  · exact h209
  rcases look_cons2 h with ⟨rfl, rfl⟩ | h
  · exact h208
  rcases look_cons2 h with ⟨rfl, rfl⟩ | h
  · exact h212
  rcases look_cons2 h with ⟨rfl, rfl⟩ | h
  · exact h152
  rcases look_cons2 h with ⟨rfl, rfl⟩ | h
  · exact h151
  rcases look_cons2 h with ⟨rfl, rfl⟩ | h
  · exact h175
  rcases look_cons2 h with ⟨rfl, rfl⟩ | h
  · exact h158
  rcases look_cons2 h with ⟨rfl, rfl⟩ | h
  · exact h179
  rcases look_cons2 h with ⟨rfl, rfl⟩ | h
  · exact h127
  rcases look_cons2 h with ⟨rfl, rfl⟩ | h
  · exact h125
  rcases look_cons2 h with ⟨rfl, rfl⟩ | h
  · exact h129
  rcases look_cons2 h with ⟨rfl, rfl⟩ | h
  · exact h128
  rcases look_cons2 h with ⟨rfl, rfl⟩ | h
  · exact h133
  rcases look_cons2 h with ⟨rfl, rfl⟩ | h
  · exact h180
  rcases look_cons2 h with ⟨rfl, rfl⟩ | h
  · exact h135
  rcases look_cons2 h with ⟨rfl, rfl⟩ | h
  · exact h146
  rcases look_cons2 h with ⟨rfl, rfl⟩ | h
  · exact h160
  rcases look_cons2 h with ⟨rfl, rfl⟩ | h
  · exact h217
  rcases look_cons2 h with ⟨rfl, rfl⟩ | h
  · exact h220
  rcases look_cons2 h with ⟨rfl, rfl⟩ | h
  · exact h147
  rcases look_cons2 h with ⟨rfl, rfl⟩ | h
  · exact h159
  rcases look_cons2 h with ⟨rfl, rfl⟩ | h
  · exact h148
  rcases look_cons2 h with ⟨rfl, rfl⟩ | h
  · exact h149
  rcases look_cons2 h with ⟨rfl, rfl⟩ | h
  · exact h154
  rcases look_cons2 h with ⟨rfl, rfl⟩ | h
  · exact h164
  rcases look_cons2 h with ⟨rfl, rfl⟩ | h
  · exact h167
  rcases look_cons2 h with ⟨rfl, rfl⟩ | h
  · exact h168
  rcases look_cons2 h with ⟨rfl, rfl⟩ | h
  · exact h171
  rcases look_cons2 h with ⟨rfl, rfl⟩ | h
  · exact h172
  rcases look_cons2 h with ⟨rfl, rfl⟩ | h
  · exact h170
  rcases look_cons2 h with ⟨rfl, rfl⟩ | h
  · exact h174
  rcases look_cons2 h with ⟨rfl, rfl⟩ | h
  · exact h221
  rcases look_cons2 h with ⟨rfl, rfl⟩ | h
  · exact h205
  rcases look_cons2 h with ⟨rfl, rfl⟩ | h
  · exact h206
  rcases look_cons2 h with ⟨rfl, rfl⟩ | h
  · exact h173
  rcases look_cons2 h with ⟨rfl, rfl⟩ | h
  · exact h169
  rcases look_cons2 h with ⟨rfl, rfl⟩ | h
  · exact h222
  rcases look_cons2 h with ⟨rfl, rfl⟩ | h
  · exact h185
  rcases look_cons2 h with ⟨rfl, rfl⟩ | h
  · exact h223
  rcases look_cons2 h with ⟨rfl, rfl⟩ | h
  · exact h204
  rcases look_cons2 h with ⟨rfl, rfl⟩ | h
  · exact h28
  rcases look_cons2 h with ⟨rfl, rfl⟩ | h
  · exact h163
  rcases look_cons2 h with ⟨rfl, rfl⟩ | h
  · exact h165
  rcases look_cons2 h with ⟨rfl, rfl⟩ | h
  · exact h29
  rcases look_cons2 h with ⟨rfl, rfl⟩ | h
  · exact h176
  rcases look_cons2 h with ⟨rfl, rfl⟩ | h
  · exact h177
  rcases look_cons2 h with ⟨rfl, rfl⟩ | h
  · exact h178
  rcases look_cons2 h with ⟨rfl, rfl⟩ | h
  · exact h30
  rcases look_cons2 h with ⟨rfl, rfl⟩ | h
  · exact h162
  rcases look_cons2 h with ⟨rfl, rfl⟩ | h
  · exact h183
  rcases look_cons2 h with ⟨rfl, rfl⟩ | h
  · exact h211
  cases h
end Bz
