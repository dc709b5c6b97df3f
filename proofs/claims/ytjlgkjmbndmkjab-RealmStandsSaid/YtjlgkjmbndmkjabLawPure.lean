/- The pure law at the arguments that a row lets in. -/
import Derived.Test.YtjlgkjmbndmkjabEntry2
import Derived.Test.YtjlgkjmbndmkjabPStands0
import Derived.Test.YtjlgkjmbndmkjabPStands1
set_option linter.all false
set_option maxRecDepth 100000
set_option linter.unusedVariables false
namespace Bz
open Go S
theorem newL_len : newL.length = 72 := by kernel_rfl
theorem realmStands (i : Int) : runF D 6061 26 [.int .i64 i] = some (.bool true) := by
  have hR : runFC SC.shortH 6000 60 = runF D 6060 := runFH_eq 60 (by omega)
  have h1 : runF D 6060 164 [] = some (.agg [.own .obj newL]) := by rw [← hR]; exact rs_new
  have h2 : runF D 6060 28 [] = some (.bool true) := by rw [← hR]; exact rs_alive
  have h3 : runF D 6060 136 [.agg [.sl .obj newL]] = some (.int .i64 0) := by rw [← hR]; exact rs_chk
  rw [show 6061 = 6060 + 1 from rfl, bailifflaw24_RealmStands.run]; unfold bailifflaw24_RealmStands.M
  rw [callK_of (x := newL) h1 rfl, callK_of (x := true) h2 rfl, callK_of (x := (0 : Int)) h3 rfl]
  rw [Bool.not_true, cond_false, bne_self_eq_false, bailifflaw24_RealmStands.T0_eq]; unfold bailifflaw24_RealmStands.T0E
  rw [cond_false, newL_len]
  have out : (i < 0 ∨ 72 ≤ i) → bailifflaw24_RealmStands.T1 bailifflaw24_RealmStands.ts (runF D 6060) 6060 i newL true = some (.bool true) := by
    intro h
    have hb : SC.natB i = false := by
      unfold SC.natB
      have e1 : (i == 1) = false := by simp; omega
      rw [e1, Bool.false_or]
      by_cases h2 : i ≥ 14
      · have : ¬ i < 72 := by omega
        simp [this]
      · simp [h2]
    rw [bailifflaw24_RealmStands.T1_eq]; unfold bailifflaw24_RealmStands.T1E
    have h4 := SC.realm_Native_ok 6058 i
    rw [hb] at h4
    rw [cond_true, callK_of (x := (bs [], false)) h4 rfl]; rfl
  by_cases h0 : i < 0
  · rw [decide_eq_true h0, cond_true]; exact out (.inl h0)
  · rw [decide_eq_false h0, cond_false]
    by_cases h1 : i ≥ ((72 : Nat) : Int)
    · rw [decide_eq_true h1]; exact out (.inr (by omega))
    · rw [decide_eq_false h1]
      have h5 := rs_all i.toNat (by omega)
      unfold rsK at h5
      rw [hR, show Int.ofNat i.toNat = i from Int.toNat_of_nonneg (by omega)] at h5
      split at h5
      · rename_i b hb; rw [hb, h5]
      · cases h5
theorem lawRealmStands : ∀ ds, PKds [.cell (.int .i64)] ds → ∃ n, runF D n 26 ds = some (.bool true) := by
  intro ds h
  cases h with | cons h1 h =>
  cases h
  cases h1 with | int a b => exact ⟨6061, realmStands _⟩
end Bz
