/- The law, leaf 2. -/
import Derived.Test.YtnklnboglijcbaaEMayIs
import Derived.KernelRfl
namespace Go.Proofs.Ytnklnboglijcbaa.E
open Go Go.RowKit
set_option maxRecDepth 100000
set_option linter.unusedVariables false
theorem may2_0 : Holds 2 0 := holds_of (tbl_ok isA2_ok isB2_ok isN0_ok) (by kernel_rfl)
theorem may2_1 : Holds 2 1 := holds_of (tbl_ok isA2_ok isB2_ok isN1_ok) (by kernel_rfl)
theorem may2_2 : Holds 2 2 := holds_of (tbl_ok isA2_ok isB2_ok isN2_ok) (by kernel_rfl)
theorem may2_3 : Holds 2 3 := holds_of (tbl_ok isA2_ok isB2_ok isN3_ok) (by kernel_rfl)
theorem may2_4 : Holds 2 4 := holds_of (tbl_ok isA2_ok isB2_ok isN4_ok) (by kernel_rfl)
theorem may2_5 : Holds 2 5 := holds_of (tbl_ok isA2_ok isB2_ok isN5_ok) (by kernel_rfl)
theorem may2_6 : Holds 2 6 := holds_of (tbl_ok isA2_ok isB2_ok isN6_ok) (by kernel_rfl)
theorem may2_7 : Holds 2 7 := holds_of (tbl_ok isA2_ok isB2_ok isN7_ok) (by kernel_rfl)
theorem may2_8 : Holds 2 8 := holds_of (tbl_ok isA2_ok isB2_ok isN8_ok) (by kernel_rfl)
theorem may2_9 : Holds 2 9 := holds_of (tbl_ok isA2_ok isB2_ok isN9_ok) (by kernel_rfl)
theorem may2_10 : Holds 2 10 := holds_of (tbl_ok isA2_ok isB2_ok isN10_ok) (by kernel_rfl)
theorem may2_11 : Holds 2 11 := holds_of (tbl_ok isA2_ok isB2_ok isN11_ok) (by kernel_rfl)
theorem may2_12 : Holds 2 12 := holds_of (tbl_ok isA2_ok isB2_ok isN12_ok) (by kernel_rfl)
theorem may2_13 : Holds 2 13 := holds_of (tbl_ok isA2_ok isB2_ok isN13_ok) (by kernel_rfl)
theorem may2_14 : Holds 2 14 := holds_of (tbl_ok isA2_ok isB2_ok isN14_ok) (by kernel_rfl)
theorem may2_lo (m : Nat) : Holds 2 (.negSucc m) := holds_lit (by kernel_rfl)
theorem may2_hi (m : Nat) : Holds 2 (.ofNat (m + 15)) := holds_lit (by kernel_rfl)
theorem may2 (l : Int) : Holds 2 l := by
  rcases int_cases l 15 with ⟨m, rfl⟩ | ⟨j, hj, rfl⟩ | ⟨m, rfl⟩
  · exact may2_lo m
  · match j, hj with
    | 0, _ => exact may2_0
    | 1, _ => exact may2_1
    | 2, _ => exact may2_2
    | 3, _ => exact may2_3
    | 4, _ => exact may2_4
    | 5, _ => exact may2_5
    | 6, _ => exact may2_6
    | 7, _ => exact may2_7
    | 8, _ => exact may2_8
    | 9, _ => exact may2_9
    | 10, _ => exact may2_10
    | 11, _ => exact may2_11
    | 12, _ => exact may2_12
    | 13, _ => exact may2_13
    | 14, _ => exact may2_14
  · exact may2_hi m
end Go.Proofs.Ytnklnboglijcbaa.E
