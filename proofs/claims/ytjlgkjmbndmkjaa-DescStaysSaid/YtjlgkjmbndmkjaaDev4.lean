/- The table of the functions, printed by gen.py. -/
import Derived.Test.YtjlgkjmbndmkjaaDev3
import Derived.Test.YtjlgkjmbndmkjaaDevP
set_option linter.all false
namespace Bz
def tab : List (Nat × Fn) :=
  (0, .code C.bailifflaw09_DescStays) ::
  (2, .code C.bailifflaw09_alive) ::
  (3, .code C.bailifflaw09_left) ::
  (4, .code C.bailifflaw09_long) ::
  (124, .code C.desc_Apply) ::
  (125, .code C.desc_Check) ::
  (126, .code C.desc_Compatible) ::
  (127, .code C.desc_Complete) ::
  (128, .code C.desc_IsAccess) ::
  (129, .code C.desc_IsData) ::
  (130, .code C.desc_IsPlain) ::
  (131, .code C.desc_Same) ::
  (132, .code C.desc_asked) ::
  (133, .code C.desc_called) ::
  (134, .code C.desc_may) ::
  (135, .code C.desc_whole) ::
  (161, .code C.num_May) ::
  (180, .code C.value_Calls) ::
  (181, .code C.value_IsObject) ::
  (182, .code C.value_May) ::
  (183, .code C.value_Num) ::
  (184, .code C.value_Same) ::
  (186, .code C.value_Strict) ::
  (207, .code C.math_Abs) ::
  (208, .code C.math_Copysign) ::
  (212, .code C.math_Signbit) ::
  (213, .code C.math_Trunc) ::
  (215, .code C.math_trunc) ::
  (209, .prim P.f2bits) ::
  (210, .prim P.bits2f) ::
  (214, .prim P.trunc) :: []
def D (n : Nat) : Option Fn := look tab n
end Bz
