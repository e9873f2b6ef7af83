/- The law, leaf 0. -/
import Derived.Test.YtnklnboglijcbaaEMayIs
import Derived.KernelRfl
namespace Go.Proofs.Ytnklnboglijcbaa.E
open Go Go.RowKit
set_option maxRecDepth 100000
set_option linter.unusedVariables false
theorem may0_0 : Holds 0 0 := holds_of (tbl_ok isA0_ok isB0_ok isN0_ok) (by kernel_rfl)
theorem may0_1 : Holds 0 1 := holds_of (tbl_ok isA0_ok isB0_ok isN1_ok) (by kernel_rfl)
theorem may0_2 : Holds 0 2 := holds_of (tbl_ok isA0_ok isB0_ok isN2_ok) (by kernel_rfl)
theorem may0_3 : Holds 0 3 := holds_of (tbl_ok isA0_ok isB0_ok isN3_ok) (by kernel_rfl)
theorem may0_4 : Holds 0 4 := holds_of (tbl_ok isA0_ok isB0_ok isN4_ok) (by kernel_rfl)
theorem may0_5 : Holds 0 5 := holds_of (tbl_ok isA0_ok isB0_ok isN5_ok) (by kernel_rfl)
theorem may0_6 : Holds 0 6 := holds_of (tbl_ok isA0_ok isB0_ok isN6_ok) (by kernel_rfl)
theorem may0_7 : Holds 0 7 := holds_of (tbl_ok isA0_ok isB0_ok isN7_ok) (by kernel_rfl)
theorem may0_8 : Holds 0 8 := holds_of (tbl_ok isA0_ok isB0_ok isN8_ok) (by kernel_rfl)
theorem may0_9 : Holds 0 9 := holds_of (tbl_ok isA0_ok isB0_ok isN9_ok) (by kernel_rfl)
theorem may0_10 : Holds 0 10 := holds_of (tbl_ok isA0_ok isB0_ok isN10_ok) (by kernel_rfl)
theorem may0_11 : Holds 0 11 := holds_of (tbl_ok isA0_ok isB0_ok isN11_ok) (by kernel_rfl)
theorem may0_12 : Holds 0 12 := holds_of (tbl_ok isA0_ok isB0_ok isN12_ok) (by kernel_rfl)
theorem may0_13 : Holds 0 13 := holds_of (tbl_ok isA0_ok isB0_ok isN13_ok) (by kernel_rfl)
theorem may0_14 : Holds 0 14 := holds_of (tbl_ok isA0_ok isB0_ok isN14_ok) (by kernel_rfl)
theorem may0_lo (m : Nat) : Holds 0 (.negSucc m) := holds_lit (by kernel_rfl)
theorem may0_hi (m : Nat) : Holds 0 (.ofNat (m + 15)) := holds_lit (by kernel_rfl)
theorem may0 (l : Int) : Holds 0 l := by
  rcases int_cases l 15 with ⟨m, rfl⟩ | ⟨j, hj, rfl⟩ | ⟨m, rfl⟩
  · exact may0_lo m
  · match j, hj with
    | 0, _ => exact may0_0
    | 1, _ => exact may0_1
    | 2, _ => exact may0_2
    | 3, _ => exact may0_3
    | 4, _ => exact may0_4
    | 5, _ => exact may0_5
    | 6, _ => exact may0_6
    | 7, _ => exact may0_7
    | 8, _ => exact may0_8
    | 9, _ => exact may0_9
    | 10, _ => exact may0_10
    | 11, _ => exact may0_11
    | 12, _ => exact may0_12
    | 13, _ => exact may0_13
    | 14, _ => exact may0_14
  · exact may0_hi m
end Go.Proofs.Ytnklnboglijcbaa.E
