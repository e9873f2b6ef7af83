/- The law, leaf 7. -/
import Derived.Test.YtnklnboglijcbaaEMayIs
import Derived.KernelRfl
namespace Go.Proofs.Ytnklnboglijcbaa.E
open Go Go.RowKit
set_option maxRecDepth 100000
set_option linter.unusedVariables false
theorem may7_0 : Holds 7 0 := holds_of (tbl_ok isA7_ok isB7_ok isN0_ok) (by kernel_rfl)
theorem may7_1 : Holds 7 1 := holds_of (tbl_ok isA7_ok isB7_ok isN1_ok) (by kernel_rfl)
theorem may7_2 : Holds 7 2 := holds_of (tbl_ok isA7_ok isB7_ok isN2_ok) (by kernel_rfl)
theorem may7_3 : Holds 7 3 := holds_of (tbl_ok isA7_ok isB7_ok isN3_ok) (by kernel_rfl)
theorem may7_4 : Holds 7 4 := holds_of (tbl_ok isA7_ok isB7_ok isN4_ok) (by kernel_rfl)
theorem may7_5 : Holds 7 5 := holds_of (tbl_ok isA7_ok isB7_ok isN5_ok) (by kernel_rfl)
theorem may7_6 : Holds 7 6 := holds_of (tbl_ok isA7_ok isB7_ok isN6_ok) (by kernel_rfl)
theorem may7_7 : Holds 7 7 := holds_of (tbl_ok isA7_ok isB7_ok isN7_ok) (by kernel_rfl)
theorem may7_8 : Holds 7 8 := holds_of (tbl_ok isA7_ok isB7_ok isN8_ok) (by kernel_rfl)
theorem may7_9 : Holds 7 9 := holds_of (tbl_ok isA7_ok isB7_ok isN9_ok) (by kernel_rfl)
theorem may7_10 : Holds 7 10 := holds_of (tbl_ok isA7_ok isB7_ok isN10_ok) (by kernel_rfl)
theorem may7_11 : Holds 7 11 := holds_of (tbl_ok isA7_ok isB7_ok isN11_ok) (by kernel_rfl)
theorem may7_12 : Holds 7 12 := holds_of (tbl_ok isA7_ok isB7_ok isN12_ok) (by kernel_rfl)
theorem may7_13 : Holds 7 13 := holds_of (tbl_ok isA7_ok isB7_ok isN13_ok) (by kernel_rfl)
theorem may7_14 : Holds 7 14 := holds_of (tbl_ok isA7_ok isB7_ok isN14_ok) (by kernel_rfl)
theorem may7_lo (m : Nat) : Holds 7 (.negSucc m) := holds_lit (by kernel_rfl)
theorem may7_hi (m : Nat) : Holds 7 (.ofNat (m + 15)) := holds_lit (by kernel_rfl)
theorem may7 (l : Int) : Holds 7 l := by
  rcases int_cases l 15 with ⟨m, rfl⟩ | ⟨j, hj, rfl⟩ | ⟨m, rfl⟩
  · exact may7_lo m
  · match j, hj with
    | 0, _ => exact may7_0
    | 1, _ => exact may7_1
    | 2, _ => exact may7_2
    | 3, _ => exact may7_3
    | 4, _ => exact may7_4
    | 5, _ => exact may7_5
    | 6, _ => exact may7_6
    | 7, _ => exact may7_7
    | 8, _ => exact may7_8
    | 9, _ => exact may7_9
    | 10, _ => exact may7_10
    | 11, _ => exact may7_11
    | 12, _ => exact may7_12
    | 13, _ => exact may7_13
    | 14, _ => exact may7_14
  · exact may7_hi m
end Go.Proofs.Ytnklnboglijcbaa.E
