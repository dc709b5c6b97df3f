/- Descriptors out of what is read. -/
import Derived.Test.YtjlgkjmbndmkjaaEntry2
import Derived.Test.YtjlgkjmbndmkjaaPDsc
set_option linter.all false
set_option linter.unusedVariables false
namespace Bz
open Go
theorem vok_of {ds : List DV} (h : CKs ckVal ds) : ∃ v : Val, ds = v.enc ∧ Vok v := by
  unfold ckVal at h
  cases h with | cons h1 h => cases h with | cons h2 h => cases h with | cons h3 h => cases h with | cons h4 h =>
  cases h
  cases h1 with | int a1 b1 => cases h2 with | float a2 => cases h3; cases h4; exact ⟨⟨_, _, _, _⟩, rfl, ⟨a1, a2⟩⟩
theorem dok_of {ds : List DV} (h : CKs ckDsc ds) : ∃ v : Dsc, ds = v.enc ∧ Dok v := by
  unfold ckDsc at h
  cases h with
  | cons h1 h =>
    obtain ⟨d1, r1, e1, g1, q1⟩ := h.split
    obtain ⟨d2, r2, e2, g2, q2⟩ := q1.split
    obtain ⟨d3, r3, e3, g3, q3⟩ := q2.split
    obtain ⟨v1, rfl, o1⟩ := vok_of g1
    obtain ⟨v2, rfl, o2⟩ := vok_of g2
    obtain ⟨v3, rfl, o3⟩ := vok_of g3
    cases q3 with | cons h5 h => cases h with | cons h6 h => cases h with | cons h7 h =>
    cases h
    cases h1 with | int a b => cases h5; cases h6; cases h7; exact ⟨⟨_, v1, v2, v3, _, _, _⟩, by rw [e1, e2, e3]; rfl, ⟨a, b, o1, o2, o3⟩⟩
end Bz
