/- The first objects: what New answers, and that Check lets them be. -/
import Derived.Test.YtjlgkjmbndmkjabPShort2
import Derived.Test.YtjlgkjmbndmkjabNewL
import Derived.KernelRfl
set_option linter.all false
set_option maxRecDepth 100000
namespace Bz
open Go S
theorem rs_new : runFC SC.shortH 6000 60 164 [] = some (.agg [.own .obj newL]) := by kernel_rfl
theorem rs_chk : runFC SC.shortH 6000 60 136 [.agg [.sl .obj newL]] = some (.int .i64 0) := by kernel_rfl
theorem rs_alive : runFC SC.shortH 6000 60 28 [] = some (.bool true) := by kernel_rfl
end Bz
