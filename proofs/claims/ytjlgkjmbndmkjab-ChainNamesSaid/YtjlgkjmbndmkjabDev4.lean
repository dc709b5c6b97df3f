/- The table of the functions, printed by gen.py. -/
import Derived.Test.YtjlgkjmbndmkjabDev3
import Derived.Test.YtjlgkjmbndmkjabDevP
set_option linter.all false
namespace Bz
def tab : List (Nat × Fn) :=
  (18, .code C.bailifflaw14_ChainNames) ::
  (19, .code C.bailifflaw14_alive) ::
  (20, .code C.bailifflaw14_four) ::
  (22, .code C.bailifflaw14_two) ::
  (114, .code C.chain_Deep) ::
  (115, .code C.chain_Down) ::
  (116, .code C.chain_IsArray) ::
  (117, .code C.chain_Live) ::
  (118, .code C.chain_Make) ::
  (119, .code C.chain_Revoke) ::
  (120, .code C.chain_asked) ::
  (121, .code C.chain_gone) ::
  (122, .code C.chain_live) ::
  (123, .code C.chain_named) ::
  (125, .code C.desc_Check) ::
  (127, .code C.desc_Complete) ::
  (128, .code C.desc_IsAccess) ::
  (129, .code C.desc_IsData) ::
  (133, .code C.desc_called) ::
  (135, .code C.desc_whole) ::
  (136, .code C.heap_Check) ::
  (137, .code C.heap_New) ::
  (144, .code C.heap_Twin) ::
  (146, .code C.heap_array) ::
  (147, .code C.heap_array_1) ::
  (148, .code C.heap_boxed) ::
  (149, .code C.heap_boxed_1) ::
  (150, .code C.heap_in) ::
  (151, .code C.heap_is) ::
  (152, .code C.heap_kind) ::
  (154, .code C.heap_loops) ::
  (155, .code C.heap_object) ::
  (156, .code C.heap_one) ::
  (157, .code C.heap_proxy) ::
  (158, .code C.key_Check) ::
  (159, .code C.key_Index) ::
  (160, .code C.key_Of) ::
  (161, .code C.num_May) ::
  (175, .code C.table_Check) ::
  (179, .code C.table_whole) ::
  (180, .code C.value_Calls) ::
  (181, .code C.value_IsObject) ::
  (182, .code C.value_May) ::
  (207, .code C.math_Abs) ::
  (208, .code C.math_Copysign) ::
  (212, .code C.math_Signbit) ::
  (213, .code C.math_Trunc) ::
  (215, .code C.math_trunc) ::
  (217, .code C.slices_ContainsFunc_Sapi_Prop_api_Prop) ::
  (220, .code C.slices_IndexFunc_Sapi_Prop_api_Prop) ::
  (209, .prim P.f2bits) ::
  (210, .prim P.bits2f) ::
  (214, .prim P.trunc) ::
  (216, .prim P.clone) :: []
def D (n : Nat) : Option Fn := look tab n
end Bz
