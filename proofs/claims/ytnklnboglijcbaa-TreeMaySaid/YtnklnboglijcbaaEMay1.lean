/- The law, leaf 1. -/
import Derived.Test.YtnklnboglijcbaaEMayIs
import Derived.KernelRfl
namespace Go.Proofs.Ytnklnboglijcbaa.E
open Go Go.RowKit
set_option maxRecDepth 100000
set_option linter.unusedVariables false
theorem may1_0 : Holds 1 0 := holds_of (tbl_ok isA1_ok isB1_ok isN0_ok) (by kernel_rfl)
theorem may1_1 : Holds 1 1 := holds_of (tbl_ok isA1_ok isB1_ok isN1_ok) (by kernel_rfl)
theorem may1_2 : Holds 1 2 := holds_of (tbl_ok isA1_ok isB1_ok isN2_ok) (by kernel_rfl)
theorem may1_3 : Holds 1 3 := holds_of (tbl_ok isA1_ok isB1_ok isN3_ok) (by kernel_rfl)
theorem may1_4 : Holds 1 4 := holds_of (tbl_ok isA1_ok isB1_ok isN4_ok) (by kernel_rfl)
theorem may1_5 : Holds 1 5 := holds_of (tbl_ok isA1_ok isB1_ok isN5_ok) (by kernel_rfl)
theorem may1_6 : Holds 1 6 := holds_of (tbl_ok isA1_ok isB1_ok isN6_ok) (by kernel_rfl)
theorem may1_7 : Holds 1 7 := holds_of (tbl_ok isA1_ok isB1_ok isN7_ok) (by kernel_rfl)
theorem may1_8 : Holds 1 8 := holds_of (tbl_ok isA1_ok isB1_ok isN8_ok) (by kernel_rfl)
theorem may1_9 : Holds 1 9 := holds_of (tbl_ok isA1_ok isB1_ok isN9_ok) (by kernel_rfl)
theorem may1_10 : Holds 1 10 := holds_of (tbl_ok isA1_ok isB1_ok isN10_ok) (by kernel_rfl)
theorem may1_11 : Holds 1 11 := holds_of (tbl_ok isA1_ok isB1_ok isN11_ok) (by kernel_rfl)
theorem may1_12 : Holds 1 12 := holds_of (tbl_ok isA1_ok isB1_ok isN12_ok) (by kernel_rfl)
theorem may1_13 : Holds 1 13 := holds_of (tbl_ok isA1_ok isB1_ok isN13_ok) (by kernel_rfl)
theorem may1_14 : Holds 1 14 := holds_of (tbl_ok isA1_ok isB1_ok isN14_ok) (by kernel_rfl)
theorem may1_lo (m : Nat) : Holds 1 (.negSucc m) := holds_lit (by kernel_rfl)
theorem may1_hi (m : Nat) : Holds 1 (.ofNat (m + 15)) := holds_lit (by kernel_rfl)
theorem may1 (l : Int) : Holds 1 l := by
  rcases int_cases l 15 with ⟨m, rfl⟩ | ⟨j, hj, rfl⟩ | ⟨m, rfl⟩
  · exact may1_lo m
  · match j, hj with
    | 0, _ => exact may1_0
    | 1, _ => exact may1_1
    | 2, _ => exact may1_2
    | 3, _ => exact may1_3
    | 4, _ => exact may1_4
    | 5, _ => exact may1_5
    | 6, _ => exact may1_6
    | 7, _ => exact may1_7
    | 8, _ => exact may1_8
    | 9, _ => exact may1_9
    | 10, _ => exact may1_10
    | 11, _ => exact may1_11
    | 12, _ => exact may1_12
    | 13, _ => exact may1_13
    | 14, _ => exact may1_14
  · exact may1_hi m
end Go.Proofs.Ytnklnboglijcbaa.E
