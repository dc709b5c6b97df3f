/- The pure law at the arguments that a row lets in. -/
import Derived.Test.YtjlgkjmbndmkjaaEntry2
import Derived.Test.YtjlgkjmbndmkjaaPRealm
set_option linter.all false
namespace Bz
open Go
theorem lawRealmCalled : ∀ ds, PKds [.cell (.int .i64), .cell .str] ds → ∃ n, runF D n 23 ds = some (.bool true) := by
  intro ds h
  cases h with | cons h1 h => cases h with | cons h2 h =>
  cases h
  cases h1 with | int a b => cases h2 with | str c => exact ⟨0 + 91, RC.realmCalled 0 _ _⟩
end Bz
