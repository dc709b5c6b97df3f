/- The table of the functions, printed by gen.py. -/
import Derived.Test.YtjlgkjmbndmkjabDev3
import Derived.Test.YtjlgkjmbndmkjabDevP
set_option linter.all false
namespace Bz
def tab : List (Nat × Fn) :=
  (26, .code C.bailifflaw24_RealmStands) ::
  (28, .code C.bailifflaw24_alive) ::
  (29, .code C.bailifflaw24_found) ::
  (30, .code C.bailifflaw24_owner) ::
  (94, .code C.bailiffref24_All) ::
  (95, .code C.bailiffref24_Firsts) ::
  (100, .code C.bailiffref24_OfObject) ::
  (101, .code C.bailiffref24_OfReflect) ::
  (102, .code C.bailiffref24_Others) ::
  (105, .code C.bailiffref24_cut) ::
  (125, .code C.desc_Check) ::
  (127, .code C.desc_Complete) ::
  (128, .code C.desc_IsAccess) ::
  (129, .code C.desc_IsData) ::
  (130, .code C.desc_IsPlain) ::
  (133, .code C.desc_called) ::
  (135, .code C.desc_whole) ::
  (136, .code C.heap_Check) ::
  (146, .code C.heap_array) ::
  (147, .code C.heap_array_1) ::
  (148, .code C.heap_boxed) ::
  (149, .code C.heap_boxed_1) ::
  (150, .code C.heap_in) ::
  (151, .code C.heap_is) ::
  (152, .code C.heap_kind) ::
  (154, .code C.heap_loops) ::
  (155, .code C.heap_object) ::
  (157, .code C.heap_proxy) ::
  (158, .code C.key_Check) ::
  (159, .code C.key_Index) ::
  (160, .code C.key_Of) ::
  (161, .code C.num_May) ::
  (162, .code C.realm_Names) ::
  (163, .code C.realm_Native) ::
  (164, .code C.realm_New) ::
  (165, .code C.realm_Number) ::
  (167, .code C.realm_firsts) ::
  (168, .code C.realm_functions) ::
  (169, .code C.realm_hidden) ::
  (170, .code C.realm_kind) ::
  (171, .code C.realm_made) ::
  (172, .code C.realm_object) ::
  (173, .code C.realm_place) ::
  (174, .code C.realm_props) ::
  (175, .code C.table_Check) ::
  (176, .code C.table_Find) ::
  (177, .code C.table_asked) ::
  (178, .code C.table_at) ::
  (179, .code C.table_whole) ::
  (180, .code C.value_Calls) ::
  (181, .code C.value_IsObject) ::
  (182, .code C.value_May) ::
  (183, .code C.value_Num) ::
  (184, .code C.value_Same) ::
  (185, .code C.value_Str) ::
  (186, .code C.value_Strict) ::
  (204, .code C.i_bytealg_LastIndexByteString) ::
  (205, .code C.i_stringslite_CutSuffix) ::
  (206, .code C.i_stringslite_HasSuffix) ::
  (207, .code C.math_Abs) ::
  (208, .code C.math_Copysign) ::
  (211, .code C.math_NaN) ::
  (212, .code C.math_Signbit) ::
  (213, .code C.math_Trunc) ::
  (215, .code C.math_trunc) ::
  (217, .code C.slices_ContainsFunc_Sapi_Prop_api_Prop) ::
  (220, .code C.slices_IndexFunc_Sapi_Prop_api_Prop) ::
  (221, .code C.strings_CutSuffix) ::
  (222, .code C.strings_HasSuffix) ::
  (223, .code C.strings_LastIndexByte) ::
  (209, .prim P.f2bits) ::
  (210, .prim P.bits2f) ::
  (214, .prim P.trunc) :: []
def D (n : Nat) : Option Fn := look tab n
end Bz
