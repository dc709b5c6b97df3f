/- RealmStands over plain data. -/
import Derived.Test.YtjlgkjmbndmkjabPShort2
import Derived.Test.YtjlgkjmbndmkjabNewL
import Derived.KernelRfl
set_option linter.all false
set_option maxRecDepth 100000
set_option linter.unusedVariables false
namespace Bz
open Go S
noncomputable def rsK (k : Nat) : Bool := match bailifflaw24_RealmStands.T1 bailifflaw24_RealmStands.ts (runFC SC.shortH 6000 60) 6060 (Int.ofNat k) newL false with | some (.bool b) => b | _ => false
theorem rs0 : (rsK 0 && (rsK 1 && (rsK 2 && (rsK 3 && (rsK 4 && rsK 5))))) = true := by kernel_rfl
theorem rs1 : (rsK 6 && (rsK 7 && (rsK 8 && (rsK 9 && (rsK 10 && rsK 11))))) = true := by kernel_rfl
theorem rs2 : (rsK 12 && (rsK 13 && (rsK 14 && (rsK 15 && (rsK 16 && rsK 17))))) = true := by kernel_rfl
theorem rs3 : (rsK 18 && (rsK 19 && (rsK 20 && (rsK 21 && (rsK 22 && rsK 23))))) = true := by kernel_rfl
theorem rs4 : (rsK 24 && (rsK 25 && (rsK 26 && (rsK 27 && (rsK 28 && rsK 29))))) = true := by kernel_rfl
theorem rs5 : (rsK 30 && (rsK 31 && (rsK 32 && (rsK 33 && (rsK 34 && rsK 35))))) = true := by kernel_rfl
theorem rs6 : (rsK 36 && (rsK 37 && (rsK 38 && (rsK 39 && (rsK 40 && rsK 41))))) = true := by kernel_rfl
theorem rs7 : (rsK 42 && (rsK 43 && (rsK 44 && (rsK 45 && (rsK 46 && rsK 47))))) = true := by kernel_rfl
theorem rs8 : (rsK 48 && (rsK 49 && (rsK 50 && (rsK 51 && (rsK 52 && rsK 53))))) = true := by kernel_rfl
theorem rs9 : (rsK 54 && (rsK 55 && (rsK 56 && (rsK 57 && (rsK 58 && rsK 59))))) = true := by kernel_rfl
theorem rs10 : (rsK 60 && (rsK 61 && (rsK 62 && (rsK 63 && (rsK 64 && rsK 65))))) = true := by kernel_rfl
theorem rs11 : (rsK 66 && (rsK 67 && (rsK 68 && (rsK 69 && (rsK 70 && rsK 71))))) = true := by kernel_rfl
theorem rs_all (k : Nat) (hk : k < 72) : rsK k = true := by
  have h0 := rs0
  have h1 := rs1
  have h2 := rs2
  have h3 := rs3
  have h4 := rs4
  have h5 := rs5
  have h6 := rs6
  have h7 := rs7
  have h8 := rs8
  have h9 := rs9
  have h10 := rs10
  have h11 := rs11
  simp only [Bool.and_eq_true] at h0 h1 h2 h3 h4 h5 h6 h7 h8 h9 h10 h11
  match k, hk with
  | 0, _ => exact h0.1
  | 1, _ => exact h0.2.1
  | 2, _ => exact h0.2.2.1
  | 3, _ => exact h0.2.2.2.1
  | 4, _ => exact h0.2.2.2.2.1
  | 5, _ => exact h0.2.2.2.2.2
  | 6, _ => exact h1.1
  | 7, _ => exact h1.2.1
  | 8, _ => exact h1.2.2.1
  | 9, _ => exact h1.2.2.2.1
  | 10, _ => exact h1.2.2.2.2.1
  | 11, _ => exact h1.2.2.2.2.2
  | 12, _ => exact h2.1
  | 13, _ => exact h2.2.1
  | 14, _ => exact h2.2.2.1
  | 15, _ => exact h2.2.2.2.1
  | 16, _ => exact h2.2.2.2.2.1
  | 17, _ => exact h2.2.2.2.2.2
  | 18, _ => exact h3.1
  | 19, _ => exact h3.2.1
  | 20, _ => exact h3.2.2.1
  | 21, _ => exact h3.2.2.2.1
  | 22, _ => exact h3.2.2.2.2.1
  | 23, _ => exact h3.2.2.2.2.2
  | 24, _ => exact h4.1
  | 25, _ => exact h4.2.1
  | 26, _ => exact h4.2.2.1
  | 27, _ => exact h4.2.2.2.1
  | 28, _ => exact h4.2.2.2.2.1
  | 29, _ => exact h4.2.2.2.2.2
  | 30, _ => exact h5.1
  | 31, _ => exact h5.2.1
  | 32, _ => exact h5.2.2.1
  | 33, _ => exact h5.2.2.2.1
  | 34, _ => exact h5.2.2.2.2.1
  | 35, _ => exact h5.2.2.2.2.2
  | 36, _ => exact h6.1
  | 37, _ => exact h6.2.1
  | 38, _ => exact h6.2.2.1
  | 39, _ => exact h6.2.2.2.1
  | 40, _ => exact h6.2.2.2.2.1
  | 41, _ => exact h6.2.2.2.2.2
  | 42, _ => exact h7.1
  | 43, _ => exact h7.2.1
  | 44, _ => exact h7.2.2.1
  | 45, _ => exact h7.2.2.2.1
  | 46, _ => exact h7.2.2.2.2.1
  | 47, _ => exact h7.2.2.2.2.2
  | 48, _ => exact h8.1
  | 49, _ => exact h8.2.1
  | 50, _ => exact h8.2.2.1
  | 51, _ => exact h8.2.2.2.1
  | 52, _ => exact h8.2.2.2.2.1
  | 53, _ => exact h8.2.2.2.2.2
  | 54, _ => exact h9.1
  | 55, _ => exact h9.2.1
  | 56, _ => exact h9.2.2.1
  | 57, _ => exact h9.2.2.2.1
  | 58, _ => exact h9.2.2.2.2.1
  | 59, _ => exact h9.2.2.2.2.2
  | 60, _ => exact h10.1
  | 61, _ => exact h10.2.1
  | 62, _ => exact h10.2.2.1
  | 63, _ => exact h10.2.2.2.1
  | 64, _ => exact h10.2.2.2.2.1
  | 65, _ => exact h10.2.2.2.2.2
  | 66, _ => exact h11.1
  | 67, _ => exact h11.2.1
  | 68, _ => exact h11.2.2.1
  | 69, _ => exact h11.2.2.2.1
  | 70, _ => exact h11.2.2.2.2.1
  | 71, _ => exact h11.2.2.2.2.2
  | k + 72, hk => omega
end Bz
