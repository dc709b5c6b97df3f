/- The checks: each function's resolved code is the program's. -/
import Derived.Test.YtjlgkjmbndmkjabSound24
import Derived.Test.YtjlgkjmbndmkjabSoundC
import Derived.Test.YtjlgkjmbndmkjabDev4
import Derived.KernelRfl
import Derived.Test.YtjlgkjmbndmkjabProg
set_option linter.all false
set_option maxRecDepth 100000
namespace Bz
open Go Go.Proofs
theorem mixed : Try.prog.follows .mixedOrders = true := by kernel_rfl
def renT : List (Nat × Nat) := (18, 6) :: (19, 17) :: (114, 20) :: (115, 21) :: (120, 50) :: (136, 12) :: (155, 41) :: (181, 38) :: (157, 63) :: (150, 64) :: (182, 81) :: (161, 93) :: (213, 96) :: (214, 101) :: (215, 102) :: (210, 92) :: (207, 97) :: (209, 103) :: (208, 106) :: (212, 98) :: (152, 82) :: (151, 65) :: (175, 66) :: (158, 80) :: (179, 83) :: (127, 94) :: (125, 99) :: (129, 84) :: (128, 104) :: (133, 105) :: (180, 107) :: (135, 100) :: (146, 67) :: (160, 37) :: (217, 85) :: (220, 95) :: (147, 86) :: (159, 87) :: (148, 68) :: (149, 88) :: (154, 42) :: (121, 51) :: (122, 53) :: (20, 24) :: (22, 18) :: (118, 19) :: (137, 27) :: (144, 13) :: (156, 43) :: (216, 69) :: (123, 52) :: (116, 22) :: (119, 23) :: (117, 25) :: []
def ren (n : Nat) : Option Nat := look renT n
theorem c18 : FnOk Try.prog ren 6 (.code C.bailifflaw14_ChainNames) := .code (fn := Try.f6) Try.func6 rfl (by kernel_rfl) (by kernel_rfl)
theorem h18 : ∀ x, D 18 = some x → FnOk Try.prog ren 6 x := fun x h => by
  have e : D 18 = some (.code C.bailifflaw14_ChainNames) := by kernel_rfl
  rw [e] at h; cases h; exact c18
theorem c19 : FnOk Try.prog ren 17 (.code C.bailifflaw14_alive) := .code (fn := Try.f17) Try.func17 rfl (by kernel_rfl) (by kernel_rfl)
theorem h19 : ∀ x, D 19 = some x → FnOk Try.prog ren 17 x := fun x h => by
  have e : D 19 = some (.code C.bailifflaw14_alive) := by kernel_rfl
  rw [e] at h; cases h; exact c19
theorem c114 : FnOk Try.prog ren 20 (.code C.chain_Deep) := .code (fn := Try.f20) Try.func20 rfl (by kernel_rfl) (by kernel_rfl)
theorem h114 : ∀ x, D 114 = some x → FnOk Try.prog ren 20 x := fun x h => by
  have e : D 114 = some (.code C.chain_Deep) := by kernel_rfl
  rw [e] at h; cases h; exact c114
theorem c115 : FnOk Try.prog ren 21 (.code C.chain_Down) := .code (fn := Try.f21) Try.func21 rfl (by kernel_rfl) (by kernel_rfl)
theorem h115 : ∀ x, D 115 = some x → FnOk Try.prog ren 21 x := fun x h => by
  have e : D 115 = some (.code C.chain_Down) := by kernel_rfl
  rw [e] at h; cases h; exact c115
theorem c120 : FnOk Try.prog ren 50 (.code C.chain_asked) := .code (fn := Try.f50) Try.func50 rfl (by kernel_rfl) (by kernel_rfl)
theorem h120 : ∀ x, D 120 = some x → FnOk Try.prog ren 50 x := fun x h => by
  have e : D 120 = some (.code C.chain_asked) := by kernel_rfl
  rw [e] at h; cases h; exact c120
theorem c136 : FnOk Try.prog ren 12 (.code C.heap_Check) := .code (fn := Try.f12) Try.func12 rfl (by kernel_rfl) (by kernel_rfl)
theorem h136 : ∀ x, D 136 = some x → FnOk Try.prog ren 12 x := fun x h => by
  have e : D 136 = some (.code C.heap_Check) := by kernel_rfl
  rw [e] at h; cases h; exact c136
theorem c155 : FnOk Try.prog ren 41 (.code C.heap_object) := .code (fn := Try.f41) Try.func41 rfl (by kernel_rfl) (by kernel_rfl)
theorem h155 : ∀ x, D 155 = some x → FnOk Try.prog ren 41 x := fun x h => by
  have e : D 155 = some (.code C.heap_object) := by kernel_rfl
  rw [e] at h; cases h; exact c155
theorem c181 : FnOk Try.prog ren 38 (.code C.value_IsObject) := .code (fn := Try.f38) Try.func38 rfl (by kernel_rfl) (by kernel_rfl)
theorem h181 : ∀ x, D 181 = some x → FnOk Try.prog ren 38 x := fun x h => by
  have e : D 181 = some (.code C.value_IsObject) := by kernel_rfl
  rw [e] at h; cases h; exact c181
theorem c157 : FnOk Try.prog ren 63 (.code C.heap_proxy) := .code (fn := Try.f63) Try.func63 rfl (by kernel_rfl) (by kernel_rfl)
theorem h157 : ∀ x, D 157 = some x → FnOk Try.prog ren 63 x := fun x h => by
  have e : D 157 = some (.code C.heap_proxy) := by kernel_rfl
  rw [e] at h; cases h; exact c157
theorem c150 : FnOk Try.prog ren 64 (.code C.heap_in) := .code (fn := Try.f64) Try.func64 rfl (by kernel_rfl) (by kernel_rfl)
theorem h150 : ∀ x, D 150 = some x → FnOk Try.prog ren 64 x := fun x h => by
  have e : D 150 = some (.code C.heap_in) := by kernel_rfl
  rw [e] at h; cases h; exact c150
theorem c182 : FnOk Try.prog ren 81 (.code C.value_May) := .code (fn := Try.f81) Try.func81 rfl (by kernel_rfl) (by kernel_rfl)
theorem h182 : ∀ x, D 182 = some x → FnOk Try.prog ren 81 x := fun x h => by
  have e : D 182 = some (.code C.value_May) := by kernel_rfl
  rw [e] at h; cases h; exact c182
theorem c161 : FnOk Try.prog ren 93 (.code C.num_May) := .code (fn := Try.f93) Try.func93 rfl (by kernel_rfl) (by kernel_rfl)
theorem h161 : ∀ x, D 161 = some x → FnOk Try.prog ren 93 x := fun x h => by
  have e : D 161 = some (.code C.num_May) := by kernel_rfl
  rw [e] at h; cases h; exact c161
theorem c213 : FnOk Try.prog ren 96 (.code C.math_Trunc) := .code (fn := Try.f96) Try.func96 rfl (by kernel_rfl) (by kernel_rfl)
theorem h213 : ∀ x, D 213 = some x → FnOk Try.prog ren 96 x := fun x h => by
  have e : D 213 = some (.code C.math_Trunc) := by kernel_rfl
  rw [e] at h; cases h; exact c213
theorem c214 : FnOk Try.prog ren 101 (.prim P.trunc) := .prim (trunc_ok (fn := Try.f101) Try.func101 rfl rfl rfl rfl)
theorem h214 : ∀ x, D 214 = some x → FnOk Try.prog ren 101 x := fun x h => by
  have e : D 214 = some (.prim P.trunc) := by kernel_rfl
  rw [e] at h; cases h; exact c214
theorem c215 : FnOk Try.prog ren 102 (.code C.math_trunc) := .code (fn := Try.f102) Try.func102 rfl (by kernel_rfl) (by kernel_rfl)
theorem h215 : ∀ x, D 215 = some x → FnOk Try.prog ren 102 x := fun x h => by
  have e : D 215 = some (.code C.math_trunc) := by kernel_rfl
  rw [e] at h; cases h; exact c215
theorem c210 : FnOk Try.prog ren 92 (.prim P.bits2f) := .prim (bits2f_ok (fn := Try.f92) Try.func92 rfl rfl rfl rfl)
theorem h210 : ∀ x, D 210 = some x → FnOk Try.prog ren 92 x := fun x h => by
  have e : D 210 = some (.prim P.bits2f) := by kernel_rfl
  rw [e] at h; cases h; exact c210
theorem c207 : FnOk Try.prog ren 97 (.code C.math_Abs) := .code (fn := Try.f97) Try.func97 rfl (by kernel_rfl) (by kernel_rfl)
theorem h207 : ∀ x, D 207 = some x → FnOk Try.prog ren 97 x := fun x h => by
  have e : D 207 = some (.code C.math_Abs) := by kernel_rfl
  rw [e] at h; cases h; exact c207
theorem c209 : FnOk Try.prog ren 103 (.prim P.f2bits) := .prim (f2bits_ok (fn := Try.f103) Try.func103 rfl rfl rfl rfl)
theorem h209 : ∀ x, D 209 = some x → FnOk Try.prog ren 103 x := fun x h => by
  have e : D 209 = some (.prim P.f2bits) := by kernel_rfl
  rw [e] at h; cases h; exact c209
theorem c208 : FnOk Try.prog ren 106 (.code C.math_Copysign) := .code (fn := Try.f106) Try.func106 rfl (by kernel_rfl) (by kernel_rfl)
theorem h208 : ∀ x, D 208 = some x → FnOk Try.prog ren 106 x := fun x h => by
  have e : D 208 = some (.code C.math_Copysign) := by kernel_rfl
  rw [e] at h; cases h; exact c208
theorem c212 : FnOk Try.prog ren 98 (.code C.math_Signbit) := .code (fn := Try.f98) Try.func98 rfl (by kernel_rfl) (by kernel_rfl)
theorem h212 : ∀ x, D 212 = some x → FnOk Try.prog ren 98 x := fun x h => by
  have e : D 212 = some (.code C.math_Signbit) := by kernel_rfl
  rw [e] at h; cases h; exact c212
theorem c152 : FnOk Try.prog ren 82 (.code C.heap_kind) := .code (fn := Try.f82) Try.func82 rfl (by kernel_rfl) (by kernel_rfl)
theorem h152 : ∀ x, D 152 = some x → FnOk Try.prog ren 82 x := fun x h => by
  have e : D 152 = some (.code C.heap_kind) := by kernel_rfl
  rw [e] at h; cases h; exact c152
theorem c151 : FnOk Try.prog ren 65 (.code C.heap_is) := .code (fn := Try.f65) Try.func65 rfl (by kernel_rfl) (by kernel_rfl)
theorem h151 : ∀ x, D 151 = some x → FnOk Try.prog ren 65 x := fun x h => by
  have e : D 151 = some (.code C.heap_is) := by kernel_rfl
  rw [e] at h; cases h; exact c151
theorem c175 : FnOk Try.prog ren 66 (.code C.table_Check) := .code (fn := Try.f66) Try.func66 rfl (by kernel_rfl) (by kernel_rfl)
theorem h175 : ∀ x, D 175 = some x → FnOk Try.prog ren 66 x := fun x h => by
  have e : D 175 = some (.code C.table_Check) := by kernel_rfl
  rw [e] at h; cases h; exact c175
theorem c158 : FnOk Try.prog ren 80 (.code C.key_Check) := .code (fn := Try.f80) Try.func80 rfl (by kernel_rfl) (by kernel_rfl)
theorem h158 : ∀ x, D 158 = some x → FnOk Try.prog ren 80 x := fun x h => by
  have e : D 158 = some (.code C.key_Check) := by kernel_rfl
  rw [e] at h; cases h; exact c158
theorem c179 : FnOk Try.prog ren 83 (.code C.table_whole) := .code (fn := Try.f83) Try.func83 rfl (by kernel_rfl) (by kernel_rfl)
theorem h179 : ∀ x, D 179 = some x → FnOk Try.prog ren 83 x := fun x h => by
  have e : D 179 = some (.code C.table_whole) := by kernel_rfl
  rw [e] at h; cases h; exact c179
theorem c127 : FnOk Try.prog ren 94 (.code C.desc_Complete) := .code (fn := Try.f94) Try.func94 rfl (by kernel_rfl) (by kernel_rfl)
theorem h127 : ∀ x, D 127 = some x → FnOk Try.prog ren 94 x := fun x h => by
  have e : D 127 = some (.code C.desc_Complete) := by kernel_rfl
  rw [e] at h; cases h; exact c127
theorem c125 : FnOk Try.prog ren 99 (.code C.desc_Check) := .code (fn := Try.f99) Try.func99 rfl (by kernel_rfl) (by kernel_rfl)
theorem h125 : ∀ x, D 125 = some x → FnOk Try.prog ren 99 x := fun x h => by
  have e : D 125 = some (.code C.desc_Check) := by kernel_rfl
  rw [e] at h; cases h; exact c125
theorem c129 : FnOk Try.prog ren 84 (.code C.desc_IsData) := .code (fn := Try.f84) Try.func84 rfl (by kernel_rfl) (by kernel_rfl)
theorem h129 : ∀ x, D 129 = some x → FnOk Try.prog ren 84 x := fun x h => by
  have e : D 129 = some (.code C.desc_IsData) := by kernel_rfl
  rw [e] at h; cases h; exact c129
theorem c128 : FnOk Try.prog ren 104 (.code C.desc_IsAccess) := .code (fn := Try.f104) Try.func104 rfl (by kernel_rfl) (by kernel_rfl)
theorem h128 : ∀ x, D 128 = some x → FnOk Try.prog ren 104 x := fun x h => by
  have e : D 128 = some (.code C.desc_IsAccess) := by kernel_rfl
  rw [e] at h; cases h; exact c128
theorem c133 : FnOk Try.prog ren 105 (.code C.desc_called) := .code (fn := Try.f105) Try.func105 rfl (by kernel_rfl) (by kernel_rfl)
theorem h133 : ∀ x, D 133 = some x → FnOk Try.prog ren 105 x := fun x h => by
  have e : D 133 = some (.code C.desc_called) := by kernel_rfl
  rw [e] at h; cases h; exact c133
theorem c180 : FnOk Try.prog ren 107 (.code C.value_Calls) := .code (fn := Try.f107) Try.func107 rfl (by kernel_rfl) (by kernel_rfl)
theorem h180 : ∀ x, D 180 = some x → FnOk Try.prog ren 107 x := fun x h => by
  have e : D 180 = some (.code C.value_Calls) := by kernel_rfl
  rw [e] at h; cases h; exact c180
theorem c135 : FnOk Try.prog ren 100 (.code C.desc_whole) := .code (fn := Try.f100) Try.func100 rfl (by kernel_rfl) (by kernel_rfl)
theorem h135 : ∀ x, D 135 = some x → FnOk Try.prog ren 100 x := fun x h => by
  have e : D 135 = some (.code C.desc_whole) := by kernel_rfl
  rw [e] at h; cases h; exact c135
theorem c146 : FnOk Try.prog ren 67 (.code C.heap_array) := .code (fn := Try.f67) Try.func67 rfl (by kernel_rfl) (by kernel_rfl)
theorem h146 : ∀ x, D 146 = some x → FnOk Try.prog ren 67 x := fun x h => by
  have e : D 146 = some (.code C.heap_array) := by kernel_rfl
  rw [e] at h; cases h; exact c146
theorem c160 : FnOk Try.prog ren 37 (.code C.key_Of) := .code (fn := Try.f37) Try.func37 rfl (by kernel_rfl) (by kernel_rfl)
theorem h160 : ∀ x, D 160 = some x → FnOk Try.prog ren 37 x := fun x h => by
  have e : D 160 = some (.code C.key_Of) := by kernel_rfl
  rw [e] at h; cases h; exact c160
theorem c217 : FnOk Try.prog ren 85 (.code C.slices_ContainsFunc_Sapi_Prop_api_Prop) := .code (fn := Try.f85) Try.func85 rfl (by kernel_rfl) (by kernel_rfl)
theorem h217 : ∀ x, D 217 = some x → FnOk Try.prog ren 85 x := fun x h => by
  have e : D 217 = some (.code C.slices_ContainsFunc_Sapi_Prop_api_Prop) := by kernel_rfl
  rw [e] at h; cases h; exact c217
theorem c220 : FnOk Try.prog ren 95 (.code C.slices_IndexFunc_Sapi_Prop_api_Prop) := .code (fn := Try.f95) Try.func95 rfl (by kernel_rfl) (by kernel_rfl)
theorem h220 : ∀ x, D 220 = some x → FnOk Try.prog ren 95 x := fun x h => by
  have e : D 220 = some (.code C.slices_IndexFunc_Sapi_Prop_api_Prop) := by kernel_rfl
  rw [e] at h; cases h; exact c220
theorem c147 : FnOk Try.prog ren 86 (.code C.heap_array_1) := .code (fn := Try.f86) Try.func86 rfl (by kernel_rfl) (by kernel_rfl)
theorem h147 : ∀ x, D 147 = some x → FnOk Try.prog ren 86 x := fun x h => by
  have e : D 147 = some (.code C.heap_array_1) := by kernel_rfl
  rw [e] at h; cases h; exact c147
theorem c159 : FnOk Try.prog ren 87 (.code C.key_Index) := .code (fn := Try.f87) Try.func87 rfl (by kernel_rfl) (by kernel_rfl)
theorem h159 : ∀ x, D 159 = some x → FnOk Try.prog ren 87 x := fun x h => by
  have e : D 159 = some (.code C.key_Index) := by kernel_rfl
  rw [e] at h; cases h; exact c159
theorem c148 : FnOk Try.prog ren 68 (.code C.heap_boxed) := .code (fn := Try.f68) Try.func68 rfl (by kernel_rfl) (by kernel_rfl)
theorem h148 : ∀ x, D 148 = some x → FnOk Try.prog ren 68 x := fun x h => by
  have e : D 148 = some (.code C.heap_boxed) := by kernel_rfl
  rw [e] at h; cases h; exact c148
theorem c149 : FnOk Try.prog ren 88 (.code C.heap_boxed_1) := .code (fn := Try.f88) Try.func88 rfl (by kernel_rfl) (by kernel_rfl)
theorem h149 : ∀ x, D 149 = some x → FnOk Try.prog ren 88 x := fun x h => by
  have e : D 149 = some (.code C.heap_boxed_1) := by kernel_rfl
  rw [e] at h; cases h; exact c149
theorem c154 : FnOk Try.prog ren 42 (.code C.heap_loops) := .code (fn := Try.f42) Try.func42 rfl (by kernel_rfl) (by kernel_rfl)
theorem h154 : ∀ x, D 154 = some x → FnOk Try.prog ren 42 x := fun x h => by
  have e : D 154 = some (.code C.heap_loops) := by kernel_rfl
  rw [e] at h; cases h; exact c154
theorem c121 : FnOk Try.prog ren 51 (.code C.chain_gone) := .code (fn := Try.f51) Try.func51 rfl (by kernel_rfl) (by kernel_rfl)
theorem h121 : ∀ x, D 121 = some x → FnOk Try.prog ren 51 x := fun x h => by
  have e : D 121 = some (.code C.chain_gone) := by kernel_rfl
  rw [e] at h; cases h; exact c121
theorem c122 : FnOk Try.prog ren 53 (.code C.chain_live) := .code (fn := Try.f53) Try.func53 rfl (by kernel_rfl) (by kernel_rfl)
theorem h122 : ∀ x, D 122 = some x → FnOk Try.prog ren 53 x := fun x h => by
  have e : D 122 = some (.code C.chain_live) := by kernel_rfl
  rw [e] at h; cases h; exact c122
theorem c20 : FnOk Try.prog ren 24 (.code C.bailifflaw14_four) := .code (fn := Try.f24) Try.func24 rfl (by kernel_rfl) (by kernel_rfl)
theorem h20 : ∀ x, D 20 = some x → FnOk Try.prog ren 24 x := fun x h => by
  have e : D 20 = some (.code C.bailifflaw14_four) := by kernel_rfl
  rw [e] at h; cases h; exact c20
theorem c22 : FnOk Try.prog ren 18 (.code C.bailifflaw14_two) := .code (fn := Try.f18) Try.func18 rfl (by kernel_rfl) (by kernel_rfl)
theorem h22 : ∀ x, D 22 = some x → FnOk Try.prog ren 18 x := fun x h => by
  have e : D 22 = some (.code C.bailifflaw14_two) := by kernel_rfl
  rw [e] at h; cases h; exact c22
theorem c118 : FnOk Try.prog ren 19 (.code C.chain_Make) := .code (fn := Try.f19) Try.func19 rfl (by kernel_rfl) (by kernel_rfl)
theorem h118 : ∀ x, D 118 = some x → FnOk Try.prog ren 19 x := fun x h => by
  have e : D 118 = some (.code C.chain_Make) := by kernel_rfl
  rw [e] at h; cases h; exact c118
theorem c137 : FnOk Try.prog ren 27 (.code C.heap_New) := .code (fn := Try.f27) Try.func27 rfl (by kernel_rfl) (by kernel_rfl)
theorem h137 : ∀ x, D 137 = some x → FnOk Try.prog ren 27 x := fun x h => by
  have e : D 137 = some (.code C.heap_New) := by kernel_rfl
  rw [e] at h; cases h; exact c137
theorem c144 : FnOk Try.prog ren 13 (.code C.heap_Twin) := .code (fn := Try.f13) Try.func13 rfl (by kernel_rfl) (by kernel_rfl)
theorem h144 : ∀ x, D 144 = some x → FnOk Try.prog ren 13 x := fun x h => by
  have e : D 144 = some (.code C.heap_Twin) := by kernel_rfl
  rw [e] at h; cases h; exact c144
theorem c156 : FnOk Try.prog ren 43 (.code C.heap_one) := .code (fn := Try.f43) Try.func43 rfl (by kernel_rfl) (by kernel_rfl)
theorem h156 : ∀ x, D 156 = some x → FnOk Try.prog ren 43 x := fun x h => by
  have e : D 156 = some (.code C.heap_one) := by kernel_rfl
  rw [e] at h; cases h; exact c156
theorem c216 : FnOk Try.prog ren 69 (.prim P.clone) := .prim (clone_ok (fn := Try.f69) mixed Try.func69 rfl rfl (by kernel_rfl))
theorem h216 : ∀ x, D 216 = some x → FnOk Try.prog ren 69 x := fun x h => by
  have e : D 216 = some (.prim P.clone) := by kernel_rfl
  rw [e] at h; cases h; exact c216
theorem c123 : FnOk Try.prog ren 52 (.code C.chain_named) := .code (fn := Try.f52) Try.func52 rfl (by kernel_rfl) (by kernel_rfl)
theorem h123 : ∀ x, D 123 = some x → FnOk Try.prog ren 52 x := fun x h => by
  have e : D 123 = some (.code C.chain_named) := by kernel_rfl
  rw [e] at h; cases h; exact c123
theorem c116 : FnOk Try.prog ren 22 (.code C.chain_IsArray) := .code (fn := Try.f22) Try.func22 rfl (by kernel_rfl) (by kernel_rfl)
theorem h116 : ∀ x, D 116 = some x → FnOk Try.prog ren 22 x := fun x h => by
  have e : D 116 = some (.code C.chain_IsArray) := by kernel_rfl
  rw [e] at h; cases h; exact c116
theorem c119 : FnOk Try.prog ren 23 (.code C.chain_Revoke) := .code (fn := Try.f23) Try.func23 rfl (by kernel_rfl) (by kernel_rfl)
theorem h119 : ∀ x, D 119 = some x → FnOk Try.prog ren 23 x := fun x h => by
  have e : D 119 = some (.code C.chain_Revoke) := by kernel_rfl
  rw [e] at h; cases h; exact c119
theorem c117 : FnOk Try.prog ren 25 (.code C.chain_Live) := .code (fn := Try.f25) Try.func25 rfl (by kernel_rfl) (by kernel_rfl)
theorem h117 : ∀ x, D 117 = some x → FnOk Try.prog ren 25 x := fun x h => by
  have e : D 117 = some (.code C.chain_Live) := by kernel_rfl
  rw [e] at h; cases h; exact c117
theorem look_cons2 {a b f g : Nat} {l : List (Nat × Nat)} (h : look ((a, b) :: l) f = some g) : (f = a ∧ g = b) ∨ look l f = some g := by
  simp only [look] at h
  cases e : Nat.beq a f with
  | true => rw [e] at h; cases h; exact .inl ⟨(Nat.eq_of_beq_eq_true e).symm, rfl⟩
  | false => rw [e] at h; exact .inr h
theorem hall : ∀ f g, ren f = some g → ∀ x, D f = some x → FnOk Try.prog ren g x := by
  intro f g h
  unfold ren renT at h
  rcases look_cons2 h with ⟨rfl, rfl⟩ | h
  · exact h18
  rcases look_cons2 h with ⟨rfl, rfl⟩ | h
  · exact h19
  rcases look_cons2 h with ⟨rfl, rfl⟩ | h
  · exact h114
  rcases look_cons2 h with ⟨rfl, rfl⟩ | h
  · exact h115
  rcases look_cons2 h with ⟨rfl, rfl⟩ | h
  · exact h120
  rcases look_cons2 h with ⟨rfl, rfl⟩ | h
  · exact h136
  rcases look_cons2 h with ⟨rfl, rfl⟩ | h
  · exact h155
  rcases look_cons2 h with ⟨rfl, rfl⟩ | h
  · exact h181
  rcases look_cons2 h with ⟨rfl, rfl⟩ | h
  · exact h157
  rcases look_cons2 h with ⟨rfl, rfl⟩ | h
  · exact h150
  rcases look_cons2 h with ⟨rfl, rfl⟩ | h
  · exact h182
  rcases look_cons2 h with ⟨rfl, rfl⟩ | h
  · exact h161
  rcases look_cons2 h with ⟨rfl, rfl⟩ | h
  · exact h213
  rcases look_cons2 h with ⟨rfl, rfl⟩ | h
  · exact h214
  rcases look_cons2 h with ⟨rfl, rfl⟩ | h
  · exact h215
  rcases look_cons2 h with ⟨rfl, rfl⟩ | h
  · exact h210
  rcases look_cons2 h with ⟨rfl, rfl⟩ | h
  · exact h207
  rcases look_cons2 h with ⟨rfl, rfl⟩ | h
  · exact h209
  rcases look_cons2 h with ⟨rfl, rfl⟩ | h
  · exact h208
  rcases look_cons2 h with ⟨rfl, rfl⟩ | h
  · exact h212
  rcases look_cons2 h with ⟨rfl, rfl⟩ | h
  · exact h152
  rcases look_cons2 h with ⟨rfl, rfl⟩ | h
  · exact h151
  rcases look_cons2 h with ⟨rfl, rfl⟩ | h
  · exact h175
  rcases look_cons2 h with ⟨rfl, rfl⟩ | h
  · exact h158
  rcases look_cons2 h with ⟨rfl, rfl⟩ | h
  · exact h179
  rcases look_cons2 h with ⟨rfl, rfl⟩ | h
  · exact h127
  rcases look_cons2 h with ⟨rfl, rfl⟩ | h
  · exact h125
  rcases look_cons2 h with ⟨rfl, rfl⟩ | h
  · exact h129
  rcases look_cons2 h with ⟨rfl, rfl⟩ | h
  · exact h128
  rcases look_cons2 h with ⟨rfl, rfl⟩ | h
  · exact h133
  rcases look_cons2 h with ⟨rfl, rfl⟩ | h
  · exact h180
  rcases look_cons2 h with ⟨rfl, rfl⟩ | h
  · exact h135
  rcases look_cons2 h with ⟨rfl, rfl⟩ | h
  · exact h146
  rcases look_cons2 h with ⟨rfl, rfl⟩ | h
  · exact h160
  rcases look_cons2 h with ⟨rfl, rfl⟩ | h
  · exact h217
  rcases look_cons2 h with ⟨rfl, rfl⟩ | h
  · exact h220
  rcases look_cons2 h with ⟨rfl, rfl⟩ | h
  · exact h147
  rcases look_cons2 h with ⟨rfl, rfl⟩ | h
  · exact h159
  rcases look_cons2 h with ⟨rfl, rfl⟩ | h
  · exact h148
  rcases look_cons2 h with ⟨rfl, rfl⟩ | h
  · exact h149
  rcases look_cons2 h with ⟨rfl, rfl⟩ | h
  · exact h154
  rcases look_cons2 h with ⟨rfl, rfl⟩ | h
  · exact h121
  rcases look_cons2 h with ⟨rfl, rfl⟩ | h
  · exact h122
  rcases look_cons2 h with ⟨rfl, rfl⟩ | h
  · exact h20
  rcases look_cons2 h with ⟨rfl, rfl⟩ | h
  · exact h22
  rcases look_cons2 h with ⟨rfl, rfl⟩ | h
  · exact h118
  rcases look_cons2 h with ⟨rfl, rfl⟩ | h
  · exact h137
  rcases look_cons2 h with ⟨rfl, rfl⟩ | h
  · exact h144
  rcases look_cons2 h with ⟨rfl, rfl⟩ | h
  · exact h156
  rcases look_cons2 h with ⟨rfl, rfl⟩ | h
  · exact h216
  rcases look_cons2 h with ⟨rfl, rfl⟩ | h
  · exact h123
  rcases look_cons2 h with ⟨rfl, rfl⟩ | h
  · exact h116
  rcases look_cons2 h with ⟨rfl, rfl⟩ | h
  · exact h119
  rcases look_cons2 h with ⟨rfl, rfl⟩ | h
  · exact h117
  cases h
end Bz
