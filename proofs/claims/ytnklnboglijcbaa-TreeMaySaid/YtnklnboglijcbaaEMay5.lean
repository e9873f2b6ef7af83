/- The law, leaf 5. -/
import Derived.Test.YtnklnboglijcbaaEMayIs
import Derived.KernelRfl
namespace Go.Proofs.Ytnklnboglijcbaa.E
open Go Go.RowKit
set_option maxRecDepth 100000
set_option linter.unusedVariables false
theorem may5_0 : Holds 5 0 := holds_of (tbl_ok isA5_ok isB5_ok isN0_ok) (by kernel_rfl)
theorem may5_1 : Holds 5 1 := holds_of (tbl_ok isA5_ok isB5_ok isN1_ok) (by kernel_rfl)
theorem may5_2 : Holds 5 2 := holds_of (tbl_ok isA5_ok isB5_ok isN2_ok) (by kernel_rfl)
theorem may5_3 : Holds 5 3 := holds_of (tbl_ok isA5_ok isB5_ok isN3_ok) (by kernel_rfl)
theorem may5_4 : Holds 5 4 := holds_of (tbl_ok isA5_ok isB5_ok isN4_ok) (by kernel_rfl)
theorem may5_5 : Holds 5 5 := holds_of (tbl_ok isA5_ok isB5_ok isN5_ok) (by kernel_rfl)
theorem may5_6 : Holds 5 6 := holds_of (tbl_ok isA5_ok isB5_ok isN6_ok) (by kernel_rfl)
theorem may5_7 : Holds 5 7 := holds_of (tbl_ok isA5_ok isB5_ok isN7_ok) (by kernel_rfl)
theorem may5_8 : Holds 5 8 := holds_of (tbl_ok isA5_ok isB5_ok isN8_ok) (by kernel_rfl)
theorem may5_9 : Holds 5 9 := holds_of (tbl_ok isA5_ok isB5_ok isN9_ok) (by kernel_rfl)
theorem may5_10 : Holds 5 10 := holds_of (tbl_ok isA5_ok isB5_ok isN10_ok) (by kernel_rfl)
theorem may5_11 : Holds 5 11 := holds_of (tbl_ok isA5_ok isB5_ok isN11_ok) (by kernel_rfl)
theorem may5_12 : Holds 5 12 := holds_of (tbl_ok isA5_ok isB5_ok isN12_ok) (by kernel_rfl)
theorem may5_13 : Holds 5 13 := holds_of (tbl_ok isA5_ok isB5_ok isN13_ok) (by kernel_rfl)
theorem may5_14 : Holds 5 14 := holds_of (tbl_ok isA5_ok isB5_ok isN14_ok) (by kernel_rfl)
theorem may5_lo (m : Nat) : Holds 5 (.negSucc m) := holds_lit (by kernel_rfl)
theorem may5_hi (m : Nat) : Holds 5 (.ofNat (m + 15)) := holds_lit (by kernel_rfl)
theorem may5 (l : Int) : Holds 5 l := by
  rcases int_cases l 15 with ⟨m, rfl⟩ | ⟨j, hj, rfl⟩ | ⟨m, rfl⟩
  · exact may5_lo m
  · match j, hj with
    | 0, _ => exact may5_0
    | 1, _ => exact may5_1
    | 2, _ => exact may5_2
    | 3, _ => exact may5_3
    | 4, _ => exact may5_4
    | 5, _ => exact may5_5
    | 6, _ => exact may5_6
    | 7, _ => exact may5_7
    | 8, _ => exact may5_8
    | 9, _ => exact may5_9
    | 10, _ => exact may5_10
    | 11, _ => exact may5_11
    | 12, _ => exact may5_12
    | 13, _ => exact may5_13
    | 14, _ => exact may5_14
  · exact may5_hi m
end Go.Proofs.Ytnklnboglijcbaa.E
