/- The law, leaf 3. -/
import Derived.Test.YtnklnboglijcbaaEMayIs
import Derived.KernelRfl
namespace Go.Proofs.Ytnklnboglijcbaa.E
open Go Go.RowKit
set_option maxRecDepth 100000
set_option linter.unusedVariables false
theorem may3_0 : Holds 3 0 := holds_of (tbl_ok isA3_ok isB3_ok isN0_ok) (by kernel_rfl)
theorem may3_1 : Holds 3 1 := holds_of (tbl_ok isA3_ok isB3_ok isN1_ok) (by kernel_rfl)
theorem may3_2 : Holds 3 2 := holds_of (tbl_ok isA3_ok isB3_ok isN2_ok) (by kernel_rfl)
theorem may3_3 : Holds 3 3 := holds_of (tbl_ok isA3_ok isB3_ok isN3_ok) (by kernel_rfl)
theorem may3_4 : Holds 3 4 := holds_of (tbl_ok isA3_ok isB3_ok isN4_ok) (by kernel_rfl)
theorem may3_5 : Holds 3 5 := holds_of (tbl_ok isA3_ok isB3_ok isN5_ok) (by kernel_rfl)
theorem may3_6 : Holds 3 6 := holds_of (tbl_ok isA3_ok isB3_ok isN6_ok) (by kernel_rfl)
theorem may3_7 : Holds 3 7 := holds_of (tbl_ok isA3_ok isB3_ok isN7_ok) (by kernel_rfl)
theorem may3_8 : Holds 3 8 := holds_of (tbl_ok isA3_ok isB3_ok isN8_ok) (by kernel_rfl)
theorem may3_9 : Holds 3 9 := holds_of (tbl_ok isA3_ok isB3_ok isN9_ok) (by kernel_rfl)
theorem may3_10 : Holds 3 10 := holds_of (tbl_ok isA3_ok isB3_ok isN10_ok) (by kernel_rfl)
theorem may3_11 : Holds 3 11 := holds_of (tbl_ok isA3_ok isB3_ok isN11_ok) (by kernel_rfl)
theorem may3_12 : Holds 3 12 := holds_of (tbl_ok isA3_ok isB3_ok isN12_ok) (by kernel_rfl)
theorem may3_13 : Holds 3 13 := holds_of (tbl_ok isA3_ok isB3_ok isN13_ok) (by kernel_rfl)
theorem may3_14 : Holds 3 14 := holds_of (tbl_ok isA3_ok isB3_ok isN14_ok) (by kernel_rfl)
theorem may3_lo (m : Nat) : Holds 3 (.negSucc m) := holds_lit (by kernel_rfl)
theorem may3_hi (m : Nat) : Holds 3 (.ofNat (m + 15)) := holds_lit (by kernel_rfl)
theorem may3 (l : Int) : Holds 3 l := by
  rcases int_cases l 15 with ⟨m, rfl⟩ | ⟨j, hj, rfl⟩ | ⟨m, rfl⟩
  · exact may3_lo m
  · match j, hj with
    | 0, _ => exact may3_0
    | 1, _ => exact may3_1
    | 2, _ => exact may3_2
    | 3, _ => exact may3_3
    | 4, _ => exact may3_4
    | 5, _ => exact may3_5
    | 6, _ => exact may3_6
    | 7, _ => exact may3_7
    | 8, _ => exact may3_8
    | 9, _ => exact may3_9
    | 10, _ => exact may3_10
    | 11, _ => exact may3_11
    | 12, _ => exact may3_12
    | 13, _ => exact may3_13
    | 14, _ => exact may3_14
  · exact may3_hi m
end Go.Proofs.Ytnklnboglijcbaa.E
