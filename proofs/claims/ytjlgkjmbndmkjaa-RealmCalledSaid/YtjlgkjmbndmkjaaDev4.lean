/- The table of the functions, printed by gen.py. -/
import Derived.Test.YtjlgkjmbndmkjaaDev3
import Derived.Test.YtjlgkjmbndmkjaaDevP
set_option linter.all false
namespace Bz
def tab : List (Nat × Fn) :=
  (23, .code C.bailifflaw24_RealmCalled) ::
  (41, .code C.bailiffref01_NaN) ::
  (42, .code C.bailiffref01_Same) ::
  (45, .code C.bailiffref07_Alike) ::
  (49, .code C.bailiffref07_Num) ::
  (94, .code C.bailiffref24_All) ::
  (95, .code C.bailiffref24_Firsts) ::
  (96, .code C.bailiffref24_Names) ::
  (97, .code C.bailiffref24_Native) ::
  (99, .code C.bailiffref24_Number) ::
  (100, .code C.bailiffref24_OfObject) ::
  (101, .code C.bailiffref24_OfReflect) ::
  (102, .code C.bailiffref24_Others) ::
  (104, .code C.bailiffref24_can) ::
  (106, .code C.bailiffref24_find) ::
  (108, .code C.bailiffref24_object) ::
  (162, .code C.realm_Names) ::
  (163, .code C.realm_Native) ::
  (165, .code C.realm_Number) ::
  (166, .code C.realm_Symbols) ::
  (167, .code C.realm_firsts) ::
  (168, .code C.realm_functions) ::
  (170, .code C.realm_kind) ::
  (172, .code C.realm_object) ::
  (173, .code C.realm_place) ::
  (183, .code C.value_Num) ::
  (211, .code C.math_NaN) ::
  (210, .prim P.bits2f) :: []
def D (n : Nat) : Option Fn := look tab n
end Bz
