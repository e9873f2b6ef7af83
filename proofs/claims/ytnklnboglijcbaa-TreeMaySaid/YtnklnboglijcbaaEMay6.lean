/- The law, leaf 6. -/
import Derived.Test.YtnklnboglijcbaaEMayIs
import Derived.KernelRfl
namespace Go.Proofs.Ytnklnboglijcbaa.E
open Go Go.RowKit
set_option maxRecDepth 100000
set_option linter.unusedVariables false
theorem may6_0 : Holds 6 0 := holds_of (tbl_ok isA6_ok isB6_ok isN0_ok) (by kernel_rfl)
theorem may6_1 : Holds 6 1 := holds_of (tbl_ok isA6_ok isB6_ok isN1_ok) (by kernel_rfl)
theorem may6_2 : Holds 6 2 := holds_of (tbl_ok isA6_ok isB6_ok isN2_ok) (by kernel_rfl)
theorem may6_3 : Holds 6 3 := holds_of (tbl_ok isA6_ok isB6_ok isN3_ok) (by kernel_rfl)
theorem may6_4 : Holds 6 4 := holds_of (tbl_ok isA6_ok isB6_ok isN4_ok) (by kernel_rfl)
theorem may6_5 : Holds 6 5 := holds_of (tbl_ok isA6_ok isB6_ok isN5_ok) (by kernel_rfl)
theorem may6_6 : Holds 6 6 := holds_of (tbl_ok isA6_ok isB6_ok isN6_ok) (by kernel_rfl)
theorem may6_7 : Holds 6 7 := holds_of (tbl_ok isA6_ok isB6_ok isN7_ok) (by kernel_rfl)
theorem may6_8 : Holds 6 8 := holds_of (tbl_ok isA6_ok isB6_ok isN8_ok) (by kernel_rfl)
theorem may6_9 : Holds 6 9 := holds_of (tbl_ok isA6_ok isB6_ok isN9_ok) (by kernel_rfl)
theorem may6_10 : Holds 6 10 := holds_of (tbl_ok isA6_ok isB6_ok isN10_ok) (by kernel_rfl)
theorem may6_11 : Holds 6 11 := holds_of (tbl_ok isA6_ok isB6_ok isN11_ok) (by kernel_rfl)
theorem may6_12 : Holds 6 12 := holds_of (tbl_ok isA6_ok isB6_ok isN12_ok) (by kernel_rfl)
theorem may6_13 : Holds 6 13 := holds_of (tbl_ok isA6_ok isB6_ok isN13_ok) (by kernel_rfl)
theorem may6_14 : Holds 6 14 := holds_of (tbl_ok isA6_ok isB6_ok isN14_ok) (by kernel_rfl)
theorem may6_lo (m : Nat) : Holds 6 (.negSucc m) := holds_lit (by kernel_rfl)
theorem may6_hi (m : Nat) : Holds 6 (.ofNat (m + 15)) := holds_lit (by kernel_rfl)
theorem may6 (l : Int) : Holds 6 l := by
  rcases int_cases l 15 with ⟨m, rfl⟩ | ⟨j, hj, rfl⟩ | ⟨m, rfl⟩
  · exact may6_lo m
  · match j, hj with
    | 0, _ => exact may6_0
    | 1, _ => exact may6_1
    | 2, _ => exact may6_2
    | 3, _ => exact may6_3
    | 4, _ => exact may6_4
    | 5, _ => exact may6_5
    | 6, _ => exact may6_6
    | 7, _ => exact may6_7
    | 8, _ => exact may6_8
    | 9, _ => exact may6_9
    | 10, _ => exact may6_10
    | 11, _ => exact may6_11
    | 12, _ => exact may6_12
    | 13, _ => exact may6_13
    | 14, _ => exact may6_14
  · exact may6_hi m
end Go.Proofs.Ytnklnboglijcbaa.E
