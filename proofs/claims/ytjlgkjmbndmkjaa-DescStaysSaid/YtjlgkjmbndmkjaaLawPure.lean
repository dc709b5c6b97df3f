/- The pure law at the arguments that a row lets in. -/
import Derived.Test.YtjlgkjmbndmkjaaPEnt
import Derived.Test.YtjlgkjmbndmkjaaPStay3
set_option linter.all false
namespace Bz
open Go
theorem lawDescStays : ∀ ds, PKds [.cell .bool, .agg ckDsc, .cell .bool, .agg ckDsc] ds → ∃ n, runF D n 0 ds = some (.bool true) := by
  intro ds h
  cases h with | cons h1 h => cases h with | cons h2 h => cases h with | cons h3 h => cases h with | cons h4 h =>
  cases h
  obtain ⟨d2, rfl, k2⟩ := h2
  obtain ⟨d4, rfl, k4⟩ := h4
  obtain ⟨x2, rfl, o2⟩ := dok_of k2
  obtain ⟨x4, rfl, o4⟩ := dok_of k4
  cases h1 with | bool b1 => cases h3 with | bool b3 => exact ⟨11, descStays b1 b3 o2 o4 (Nat.le_refl 11)⟩
end Bz
