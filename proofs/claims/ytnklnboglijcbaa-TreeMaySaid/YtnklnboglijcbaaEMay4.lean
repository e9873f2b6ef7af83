/- The law, leaf 4. -/
import Derived.Test.YtnklnboglijcbaaEMayIs
import Derived.KernelRfl
namespace Go.Proofs.Ytnklnboglijcbaa.E
open Go Go.RowKit
set_option maxRecDepth 100000
set_option linter.unusedVariables false
theorem may4_0 : Holds 4 0 := holds_of (tbl_ok isA4_ok isB4_ok isN0_ok) (by kernel_rfl)
theorem may4_1 : Holds 4 1 := holds_of (tbl_ok isA4_ok isB4_ok isN1_ok) (by kernel_rfl)
theorem may4_2 : Holds 4 2 := holds_of (tbl_ok isA4_ok isB4_ok isN2_ok) (by kernel_rfl)
theorem may4_3 : Holds 4 3 := holds_of (tbl_ok isA4_ok isB4_ok isN3_ok) (by kernel_rfl)
theorem may4_4 : Holds 4 4 := holds_of (tbl_ok isA4_ok isB4_ok isN4_ok) (by kernel_rfl)
theorem may4_5 : Holds 4 5 := holds_of (tbl_ok isA4_ok isB4_ok isN5_ok) (by kernel_rfl)
theorem may4_6 : Holds 4 6 := holds_of (tbl_ok isA4_ok isB4_ok isN6_ok) (by kernel_rfl)
theorem may4_7 : Holds 4 7 := holds_of (tbl_ok isA4_ok isB4_ok isN7_ok) (by kernel_rfl)
theorem may4_8 : Holds 4 8 := holds_of (tbl_ok isA4_ok isB4_ok isN8_ok) (by kernel_rfl)
theorem may4_9 : Holds 4 9 := holds_of (tbl_ok isA4_ok isB4_ok isN9_ok) (by kernel_rfl)
theorem may4_10 : Holds 4 10 := holds_of (tbl_ok isA4_ok isB4_ok isN10_ok) (by kernel_rfl)
theorem may4_11 : Holds 4 11 := holds_of (tbl_ok isA4_ok isB4_ok isN11_ok) (by kernel_rfl)
theorem may4_12 : Holds 4 12 := holds_of (tbl_ok isA4_ok isB4_ok isN12_ok) (by kernel_rfl)
theorem may4_13 : Holds 4 13 := holds_of (tbl_ok isA4_ok isB4_ok isN13_ok) (by kernel_rfl)
theorem may4_14 : Holds 4 14 := holds_of (tbl_ok isA4_ok isB4_ok isN14_ok) (by kernel_rfl)
theorem may4_lo (m : Nat) : Holds 4 (.negSucc m) := holds_lit (by kernel_rfl)
theorem may4_hi (m : Nat) : Holds 4 (.ofNat (m + 15)) := holds_lit (by kernel_rfl)
theorem may4 (l : Int) : Holds 4 l := by
  rcases int_cases l 15 with ⟨m, rfl⟩ | ⟨j, hj, rfl⟩ | ⟨m, rfl⟩
  · exact may4_lo m
  · match j, hj with
    | 0, _ => exact may4_0
    | 1, _ => exact may4_1
    | 2, _ => exact may4_2
    | 3, _ => exact may4_3
    | 4, _ => exact may4_4
    | 5, _ => exact may4_5
    | 6, _ => exact may4_6
    | 7, _ => exact may4_7
    | 8, _ => exact may4_8
    | 9, _ => exact may4_9
    | 10, _ => exact may4_10
    | 11, _ => exact may4_11
    | 12, _ => exact may4_12
    | 13, _ => exact may4_13
    | 14, _ => exact may4_14
  · exact may4_hi m
end Go.Proofs.Ytnklnboglijcbaa.E
