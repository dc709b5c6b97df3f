/- The table of the functions, printed by gen.py. -/
import Derived.Test.YtjlgkjmbndmkjaaDev3
import Derived.Test.YtjlgkjmbndmkjaaDevP
set_option linter.all false
namespace Bz
def tab : List (Nat × Fn) :=
  (25, .code C.bailifflaw24_RealmNames) ::
  (28, .code C.bailifflaw24_alive) ::
  (94, .code C.bailiffref24_All) ::
  (95, .code C.bailiffref24_Firsts) ::
  (100, .code C.bailiffref24_OfObject) ::
  (101, .code C.bailiffref24_OfReflect) ::
  (102, .code C.bailiffref24_Others) ::
  (105, .code C.bailiffref24_cut) ::
  (125, .code C.desc_Check) ::
  (127, .code C.desc_Complete) ::
  (128, .code C.desc_IsAccess) ::
  (129, .code C.desc_IsData) ::
  (133, .code C.desc_called) ::
  (135, .code C.desc_whole) ::
  (158, .code C.key_Check) ::
  (160, .code C.key_Of) ::
  (161, .code C.num_May) ::
  (163, .code C.realm_Native) ::
  (164, .code C.realm_New) ::
  (165, .code C.realm_Number) ::
  (167, .code C.realm_firsts) ::
  (168, .code C.realm_functions) ::
  (169, .code C.realm_hidden) ::
  (170, .code C.realm_kind) ::
  (171, .code C.realm_made) ::
  (172, .code C.realm_object) ::
  (173, .code C.realm_place) ::
  (174, .code C.realm_props) ::
  (175, .code C.table_Check) ::
  (176, .code C.table_Find) ::
  (177, .code C.table_asked) ::
  (178, .code C.table_at) ::
  (179, .code C.table_whole) ::
  (180, .code C.value_Calls) ::
  (182, .code C.value_May) ::
  (185, .code C.value_Str) ::
  (204, .code C.i_bytealg_LastIndexByteString) ::
  (205, .code C.i_stringslite_CutSuffix) ::
  (206, .code C.i_stringslite_HasSuffix) ::
  (207, .code C.math_Abs) ::
  (208, .code C.math_Copysign) ::
  (212, .code C.math_Signbit) ::
  (213, .code C.math_Trunc) ::
  (215, .code C.math_trunc) ::
  (221, .code C.strings_CutSuffix) ::
  (222, .code C.strings_HasSuffix) ::
  (223, .code C.strings_LastIndexByte) ::
  (209, .prim P.f2bits) ::
  (210, .prim P.bits2f) ::
  (214, .prim P.trunc) :: []
def D (n : Nat) : Option Fn := look tab n
end Bz
