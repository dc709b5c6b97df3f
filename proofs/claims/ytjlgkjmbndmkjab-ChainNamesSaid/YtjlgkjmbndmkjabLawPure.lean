/- The pure law at the arguments that a row lets in. -/
import Derived.Test.YtjlgkjmbndmkjabEntry2
import Derived.Test.YtjlgkjmbndmkjabFast
import Derived.KernelRfl
set_option linter.all false
set_option maxRecDepth 100000
namespace Bz
open Go
theorem chainNamesF : runFF D 60 18 [] = some (.bool true) := by kernel_rfl
theorem lawChainNames : ∀ ds, PKds [] ds → ∃ n, runF D n 18 ds = some (.bool true) := by
  intro ds h
  cases h
  exact ⟨60, (runFF_eq D 60 18 []).symm.trans chainNamesF⟩
end Bz
