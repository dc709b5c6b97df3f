/- The table of the functions, printed by gen.py. -/
import Derived.Test.YtjlgkjmbndmkjaaDev3
import Derived.Test.YtjlgkjmbndmkjaaDevP
set_option linter.all false
namespace Bz
def tab : List (Nat × Fn) :=
  (1, .code C.bailifflaw09_DescTwos) ::
  (4, .code C.bailifflaw09_long) ::
  (40, .code C.bailiffref01_May) ::
  (42, .code C.bailiffref01_Same) ::
  (44, .code C.bailiffref01_whole) ::
  (45, .code C.bailiffref07_Alike) ::
  (46, .code C.bailiffref07_Calls) ::
  (47, .code C.bailiffref07_IsObject) ::
  (48, .code C.bailiffref07_May) ::
  (50, .code C.bailiffref07_Same) ::
  (53, .code C.bailiffref07_nought) ::
  (57, .code C.bailiffref09_Alike) ::
  (58, .code C.bailiffref09_Apply) ::
  (59, .code C.bailiffref09_Check) ::
  (60, .code C.bailiffref09_Compatible) ::
  (61, .code C.bailiffref09_Has) ::
  (62, .code C.bailiffref09_IsAccess) ::
  (63, .code C.bailiffref09_IsData) ::
  (64, .code C.bailiffref09_IsWhole) ::
  (65, .code C.bailiffref09_Whole) ::
  (66, .code C.bailiffref09_bare) ::
  (67, .code C.bailiffref09_called) ::
  (124, .code C.desc_Apply) ::
  (125, .code C.desc_Check) ::
  (126, .code C.desc_Compatible) ::
  (128, .code C.desc_IsAccess) ::
  (129, .code C.desc_IsData) ::
  (130, .code C.desc_IsPlain) ::
  (132, .code C.desc_asked) ::
  (133, .code C.desc_called) ::
  (134, .code C.desc_may) ::
  (135, .code C.desc_whole) ::
  (161, .code C.num_May) ::
  (180, .code C.value_Calls) ::
  (181, .code C.value_IsObject) ::
  (182, .code C.value_May) ::
  (184, .code C.value_Same) ::
  (186, .code C.value_Strict) ::
  (207, .code C.math_Abs) ::
  (208, .code C.math_Copysign) ::
  (212, .code C.math_Signbit) ::
  (213, .code C.math_Trunc) ::
  (215, .code C.math_trunc) ::
  (209, .prim P.f2bits) ::
  (210, .prim P.bits2f) ::
  (214, .prim P.trunc) :: []
def D (n : Nat) : Option Fn := look tab n
end Bz
