/- The pure law at the arguments that a row lets in. -/
import Derived.Test.YtjlgkjmbndmkjaaEntry2
import Derived.Test.YtjlgkjmbndmkjaaPShort
import Derived.KernelRfl
set_option linter.all false
set_option maxRecDepth 100000
namespace Bz
open Go
theorem realmNamesF : runFO SC.shortO 60 25 [] = some (.bool true) := by kernel_rfl
theorem lawRealmNames : ∀ ds, PKds [] ds → ∃ n, runF D n 25 ds = some (.bool true) := by
  intro ds h
  cases h
  exact ⟨60 + 200, (runFO_short 60 (by omega) 25 []).symm.trans realmNamesF⟩
end Bz
