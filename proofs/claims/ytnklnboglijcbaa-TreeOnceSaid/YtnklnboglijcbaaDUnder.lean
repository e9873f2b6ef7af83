/- Who is under which node, and how often under a row of nodes. Conditions: none. -/
import Derived.Test.YtnklnboglijcbaaDRes
namespace Go.Proofs.Ytnklnboglijcbaa.D
open Go Go.RowKit
set_option maxRecDepth 100000
set_option linter.unusedVariables false
/-- is a place under a node? -/
def underB (x : Int) (i : Nat) : Bool := match x with
  | .ofNat j => Nat.beq j (2 * i) || Nat.beq j (i / 2 * 4 + 1) || Nat.beq j (i / 4 * 8 + 3) || Nat.beq j 7
  | .negSucc _ => false
theorem under0_0 : run Try.prog 200 8 12 [.sc (.int .i64 (Int.ofNat 0)), .sc (.int .i64 0)] = some (.sc (.bool (underB (Int.ofNat 0) 0))) := by kernel_rfl
theorem under0_1 : run Try.prog 200 8 12 [.sc (.int .i64 (Int.ofNat 1)), .sc (.int .i64 0)] = some (.sc (.bool (underB (Int.ofNat 1) 0))) := by kernel_rfl
theorem under0_2 : run Try.prog 200 8 12 [.sc (.int .i64 (Int.ofNat 2)), .sc (.int .i64 0)] = some (.sc (.bool (underB (Int.ofNat 2) 0))) := by kernel_rfl
theorem under0_3 : run Try.prog 200 8 12 [.sc (.int .i64 (Int.ofNat 3)), .sc (.int .i64 0)] = some (.sc (.bool (underB (Int.ofNat 3) 0))) := by kernel_rfl
theorem under0_4 : run Try.prog 200 8 12 [.sc (.int .i64 (Int.ofNat 4)), .sc (.int .i64 0)] = some (.sc (.bool (underB (Int.ofNat 4) 0))) := by kernel_rfl
theorem under0_5 : run Try.prog 200 8 12 [.sc (.int .i64 (Int.ofNat 5)), .sc (.int .i64 0)] = some (.sc (.bool (underB (Int.ofNat 5) 0))) := by kernel_rfl
theorem under0_6 : run Try.prog 200 8 12 [.sc (.int .i64 (Int.ofNat 6)), .sc (.int .i64 0)] = some (.sc (.bool (underB (Int.ofNat 6) 0))) := by kernel_rfl
theorem under0_7 : run Try.prog 200 8 12 [.sc (.int .i64 (Int.ofNat 7)), .sc (.int .i64 0)] = some (.sc (.bool (underB (Int.ofNat 7) 0))) := by kernel_rfl
theorem under0_8 : run Try.prog 200 8 12 [.sc (.int .i64 (Int.ofNat 8)), .sc (.int .i64 0)] = some (.sc (.bool (underB (Int.ofNat 8) 0))) := by kernel_rfl
theorem under0_9 : run Try.prog 200 8 12 [.sc (.int .i64 (Int.ofNat 9)), .sc (.int .i64 0)] = some (.sc (.bool (underB (Int.ofNat 9) 0))) := by kernel_rfl
theorem under0_10 : run Try.prog 200 8 12 [.sc (.int .i64 (Int.ofNat 10)), .sc (.int .i64 0)] = some (.sc (.bool (underB (Int.ofNat 10) 0))) := by kernel_rfl
theorem under0_11 : run Try.prog 200 8 12 [.sc (.int .i64 (Int.ofNat 11)), .sc (.int .i64 0)] = some (.sc (.bool (underB (Int.ofNat 11) 0))) := by kernel_rfl
theorem under0_12 : run Try.prog 200 8 12 [.sc (.int .i64 (Int.ofNat 12)), .sc (.int .i64 0)] = some (.sc (.bool (underB (Int.ofNat 12) 0))) := by kernel_rfl
theorem under0_13 : run Try.prog 200 8 12 [.sc (.int .i64 (Int.ofNat 13)), .sc (.int .i64 0)] = some (.sc (.bool (underB (Int.ofNat 13) 0))) := by kernel_rfl
theorem under0_14 : run Try.prog 200 8 12 [.sc (.int .i64 (Int.ofNat 14)), .sc (.int .i64 0)] = some (.sc (.bool (underB (Int.ofNat 14) 0))) := by kernel_rfl
theorem under0 (x : Int) : run Try.prog 200 8 12 [.sc (.int .i64 x), .sc (.int .i64 0)] = some (.sc (.bool (underB x 0))) := by
  rcases int_cases x 15 with ⟨m, rfl⟩ | ⟨j, hj, rfl⟩ | ⟨m, rfl⟩
  · kernel_rfl
  · match j, hj with
    | 0, _ => exact under0_0
    | 1, _ => exact under0_1
    | 2, _ => exact under0_2
    | 3, _ => exact under0_3
    | 4, _ => exact under0_4
    | 5, _ => exact under0_5
    | 6, _ => exact under0_6
    | 7, _ => exact under0_7
    | 8, _ => exact under0_8
    | 9, _ => exact under0_9
    | 10, _ => exact under0_10
    | 11, _ => exact under0_11
    | 12, _ => exact under0_12
    | 13, _ => exact under0_13
    | 14, _ => exact under0_14
  · kernel_rfl
theorem under1_0 : run Try.prog 200 8 12 [.sc (.int .i64 (Int.ofNat 0)), .sc (.int .i64 1)] = some (.sc (.bool (underB (Int.ofNat 0) 1))) := by kernel_rfl
theorem under1_1 : run Try.prog 200 8 12 [.sc (.int .i64 (Int.ofNat 1)), .sc (.int .i64 1)] = some (.sc (.bool (underB (Int.ofNat 1) 1))) := by kernel_rfl
theorem under1_2 : run Try.prog 200 8 12 [.sc (.int .i64 (Int.ofNat 2)), .sc (.int .i64 1)] = some (.sc (.bool (underB (Int.ofNat 2) 1))) := by kernel_rfl
theorem under1_3 : run Try.prog 200 8 12 [.sc (.int .i64 (Int.ofNat 3)), .sc (.int .i64 1)] = some (.sc (.bool (underB (Int.ofNat 3) 1))) := by kernel_rfl
theorem under1_4 : run Try.prog 200 8 12 [.sc (.int .i64 (Int.ofNat 4)), .sc (.int .i64 1)] = some (.sc (.bool (underB (Int.ofNat 4) 1))) := by kernel_rfl
theorem under1_5 : run Try.prog 200 8 12 [.sc (.int .i64 (Int.ofNat 5)), .sc (.int .i64 1)] = some (.sc (.bool (underB (Int.ofNat 5) 1))) := by kernel_rfl
theorem under1_6 : run Try.prog 200 8 12 [.sc (.int .i64 (Int.ofNat 6)), .sc (.int .i64 1)] = some (.sc (.bool (underB (Int.ofNat 6) 1))) := by kernel_rfl
theorem under1_7 : run Try.prog 200 8 12 [.sc (.int .i64 (Int.ofNat 7)), .sc (.int .i64 1)] = some (.sc (.bool (underB (Int.ofNat 7) 1))) := by kernel_rfl
theorem under1_8 : run Try.prog 200 8 12 [.sc (.int .i64 (Int.ofNat 8)), .sc (.int .i64 1)] = some (.sc (.bool (underB (Int.ofNat 8) 1))) := by kernel_rfl
theorem under1_9 : run Try.prog 200 8 12 [.sc (.int .i64 (Int.ofNat 9)), .sc (.int .i64 1)] = some (.sc (.bool (underB (Int.ofNat 9) 1))) := by kernel_rfl
theorem under1_10 : run Try.prog 200 8 12 [.sc (.int .i64 (Int.ofNat 10)), .sc (.int .i64 1)] = some (.sc (.bool (underB (Int.ofNat 10) 1))) := by kernel_rfl
theorem under1_11 : run Try.prog 200 8 12 [.sc (.int .i64 (Int.ofNat 11)), .sc (.int .i64 1)] = some (.sc (.bool (underB (Int.ofNat 11) 1))) := by kernel_rfl
theorem under1_12 : run Try.prog 200 8 12 [.sc (.int .i64 (Int.ofNat 12)), .sc (.int .i64 1)] = some (.sc (.bool (underB (Int.ofNat 12) 1))) := by kernel_rfl
theorem under1_13 : run Try.prog 200 8 12 [.sc (.int .i64 (Int.ofNat 13)), .sc (.int .i64 1)] = some (.sc (.bool (underB (Int.ofNat 13) 1))) := by kernel_rfl
theorem under1_14 : run Try.prog 200 8 12 [.sc (.int .i64 (Int.ofNat 14)), .sc (.int .i64 1)] = some (.sc (.bool (underB (Int.ofNat 14) 1))) := by kernel_rfl
theorem under1 (x : Int) : run Try.prog 200 8 12 [.sc (.int .i64 x), .sc (.int .i64 1)] = some (.sc (.bool (underB x 1))) := by
  rcases int_cases x 15 with ⟨m, rfl⟩ | ⟨j, hj, rfl⟩ | ⟨m, rfl⟩
  · kernel_rfl
  · match j, hj with
    | 0, _ => exact under1_0
    | 1, _ => exact under1_1
    | 2, _ => exact under1_2
    | 3, _ => exact under1_3
    | 4, _ => exact under1_4
    | 5, _ => exact under1_5
    | 6, _ => exact under1_6
    | 7, _ => exact under1_7
    | 8, _ => exact under1_8
    | 9, _ => exact under1_9
    | 10, _ => exact under1_10
    | 11, _ => exact under1_11
    | 12, _ => exact under1_12
    | 13, _ => exact under1_13
    | 14, _ => exact under1_14
  · kernel_rfl
theorem under2_0 : run Try.prog 200 8 12 [.sc (.int .i64 (Int.ofNat 0)), .sc (.int .i64 2)] = some (.sc (.bool (underB (Int.ofNat 0) 2))) := by kernel_rfl
theorem under2_1 : run Try.prog 200 8 12 [.sc (.int .i64 (Int.ofNat 1)), .sc (.int .i64 2)] = some (.sc (.bool (underB (Int.ofNat 1) 2))) := by kernel_rfl
theorem under2_2 : run Try.prog 200 8 12 [.sc (.int .i64 (Int.ofNat 2)), .sc (.int .i64 2)] = some (.sc (.bool (underB (Int.ofNat 2) 2))) := by kernel_rfl
theorem under2_3 : run Try.prog 200 8 12 [.sc (.int .i64 (Int.ofNat 3)), .sc (.int .i64 2)] = some (.sc (.bool (underB (Int.ofNat 3) 2))) := by kernel_rfl
theorem under2_4 : run Try.prog 200 8 12 [.sc (.int .i64 (Int.ofNat 4)), .sc (.int .i64 2)] = some (.sc (.bool (underB (Int.ofNat 4) 2))) := by kernel_rfl
theorem under2_5 : run Try.prog 200 8 12 [.sc (.int .i64 (Int.ofNat 5)), .sc (.int .i64 2)] = some (.sc (.bool (underB (Int.ofNat 5) 2))) := by kernel_rfl
theorem under2_6 : run Try.prog 200 8 12 [.sc (.int .i64 (Int.ofNat 6)), .sc (.int .i64 2)] = some (.sc (.bool (underB (Int.ofNat 6) 2))) := by kernel_rfl
theorem under2_7 : run Try.prog 200 8 12 [.sc (.int .i64 (Int.ofNat 7)), .sc (.int .i64 2)] = some (.sc (.bool (underB (Int.ofNat 7) 2))) := by kernel_rfl
theorem under2_8 : run Try.prog 200 8 12 [.sc (.int .i64 (Int.ofNat 8)), .sc (.int .i64 2)] = some (.sc (.bool (underB (Int.ofNat 8) 2))) := by kernel_rfl
theorem under2_9 : run Try.prog 200 8 12 [.sc (.int .i64 (Int.ofNat 9)), .sc (.int .i64 2)] = some (.sc (.bool (underB (Int.ofNat 9) 2))) := by kernel_rfl
theorem under2_10 : run Try.prog 200 8 12 [.sc (.int .i64 (Int.ofNat 10)), .sc (.int .i64 2)] = some (.sc (.bool (underB (Int.ofNat 10) 2))) := by kernel_rfl
theorem under2_11 : run Try.prog 200 8 12 [.sc (.int .i64 (Int.ofNat 11)), .sc (.int .i64 2)] = some (.sc (.bool (underB (Int.ofNat 11) 2))) := by kernel_rfl
theorem under2_12 : run Try.prog 200 8 12 [.sc (.int .i64 (Int.ofNat 12)), .sc (.int .i64 2)] = some (.sc (.bool (underB (Int.ofNat 12) 2))) := by kernel_rfl
theorem under2_13 : run Try.prog 200 8 12 [.sc (.int .i64 (Int.ofNat 13)), .sc (.int .i64 2)] = some (.sc (.bool (underB (Int.ofNat 13) 2))) := by kernel_rfl
theorem under2_14 : run Try.prog 200 8 12 [.sc (.int .i64 (Int.ofNat 14)), .sc (.int .i64 2)] = some (.sc (.bool (underB (Int.ofNat 14) 2))) := by kernel_rfl
theorem under2 (x : Int) : run Try.prog 200 8 12 [.sc (.int .i64 x), .sc (.int .i64 2)] = some (.sc (.bool (underB x 2))) := by
  rcases int_cases x 15 with ⟨m, rfl⟩ | ⟨j, hj, rfl⟩ | ⟨m, rfl⟩
  · kernel_rfl
  · match j, hj with
    | 0, _ => exact under2_0
    | 1, _ => exact under2_1
    | 2, _ => exact under2_2
    | 3, _ => exact under2_3
    | 4, _ => exact under2_4
    | 5, _ => exact under2_5
    | 6, _ => exact under2_6
    | 7, _ => exact under2_7
    | 8, _ => exact under2_8
    | 9, _ => exact under2_9
    | 10, _ => exact under2_10
    | 11, _ => exact under2_11
    | 12, _ => exact under2_12
    | 13, _ => exact under2_13
    | 14, _ => exact under2_14
  · kernel_rfl
theorem under3_0 : run Try.prog 200 8 12 [.sc (.int .i64 (Int.ofNat 0)), .sc (.int .i64 3)] = some (.sc (.bool (underB (Int.ofNat 0) 3))) := by kernel_rfl
theorem under3_1 : run Try.prog 200 8 12 [.sc (.int .i64 (Int.ofNat 1)), .sc (.int .i64 3)] = some (.sc (.bool (underB (Int.ofNat 1) 3))) := by kernel_rfl
theorem under3_2 : run Try.prog 200 8 12 [.sc (.int .i64 (Int.ofNat 2)), .sc (.int .i64 3)] = some (.sc (.bool (underB (Int.ofNat 2) 3))) := by kernel_rfl
theorem under3_3 : run Try.prog 200 8 12 [.sc (.int .i64 (Int.ofNat 3)), .sc (.int .i64 3)] = some (.sc (.bool (underB (Int.ofNat 3) 3))) := by kernel_rfl
theorem under3_4 : run Try.prog 200 8 12 [.sc (.int .i64 (Int.ofNat 4)), .sc (.int .i64 3)] = some (.sc (.bool (underB (Int.ofNat 4) 3))) := by kernel_rfl
theorem under3_5 : run Try.prog 200 8 12 [.sc (.int .i64 (Int.ofNat 5)), .sc (.int .i64 3)] = some (.sc (.bool (underB (Int.ofNat 5) 3))) := by kernel_rfl
theorem under3_6 : run Try.prog 200 8 12 [.sc (.int .i64 (Int.ofNat 6)), .sc (.int .i64 3)] = some (.sc (.bool (underB (Int.ofNat 6) 3))) := by kernel_rfl
theorem under3_7 : run Try.prog 200 8 12 [.sc (.int .i64 (Int.ofNat 7)), .sc (.int .i64 3)] = some (.sc (.bool (underB (Int.ofNat 7) 3))) := by kernel_rfl
theorem under3_8 : run Try.prog 200 8 12 [.sc (.int .i64 (Int.ofNat 8)), .sc (.int .i64 3)] = some (.sc (.bool (underB (Int.ofNat 8) 3))) := by kernel_rfl
theorem under3_9 : run Try.prog 200 8 12 [.sc (.int .i64 (Int.ofNat 9)), .sc (.int .i64 3)] = some (.sc (.bool (underB (Int.ofNat 9) 3))) := by kernel_rfl
theorem under3_10 : run Try.prog 200 8 12 [.sc (.int .i64 (Int.ofNat 10)), .sc (.int .i64 3)] = some (.sc (.bool (underB (Int.ofNat 10) 3))) := by kernel_rfl
theorem under3_11 : run Try.prog 200 8 12 [.sc (.int .i64 (Int.ofNat 11)), .sc (.int .i64 3)] = some (.sc (.bool (underB (Int.ofNat 11) 3))) := by kernel_rfl
theorem under3_12 : run Try.prog 200 8 12 [.sc (.int .i64 (Int.ofNat 12)), .sc (.int .i64 3)] = some (.sc (.bool (underB (Int.ofNat 12) 3))) := by kernel_rfl
theorem under3_13 : run Try.prog 200 8 12 [.sc (.int .i64 (Int.ofNat 13)), .sc (.int .i64 3)] = some (.sc (.bool (underB (Int.ofNat 13) 3))) := by kernel_rfl
theorem under3_14 : run Try.prog 200 8 12 [.sc (.int .i64 (Int.ofNat 14)), .sc (.int .i64 3)] = some (.sc (.bool (underB (Int.ofNat 14) 3))) := by kernel_rfl
theorem under3 (x : Int) : run Try.prog 200 8 12 [.sc (.int .i64 x), .sc (.int .i64 3)] = some (.sc (.bool (underB x 3))) := by
  rcases int_cases x 15 with ⟨m, rfl⟩ | ⟨j, hj, rfl⟩ | ⟨m, rfl⟩
  · kernel_rfl
  · match j, hj with
    | 0, _ => exact under3_0
    | 1, _ => exact under3_1
    | 2, _ => exact under3_2
    | 3, _ => exact under3_3
    | 4, _ => exact under3_4
    | 5, _ => exact under3_5
    | 6, _ => exact under3_6
    | 7, _ => exact under3_7
    | 8, _ => exact under3_8
    | 9, _ => exact under3_9
    | 10, _ => exact under3_10
    | 11, _ => exact under3_11
    | 12, _ => exact under3_12
    | 13, _ => exact under3_13
    | 14, _ => exact under3_14
  · kernel_rfl
theorem under4_0 : run Try.prog 200 8 12 [.sc (.int .i64 (Int.ofNat 0)), .sc (.int .i64 4)] = some (.sc (.bool (underB (Int.ofNat 0) 4))) := by kernel_rfl
theorem under4_1 : run Try.prog 200 8 12 [.sc (.int .i64 (Int.ofNat 1)), .sc (.int .i64 4)] = some (.sc (.bool (underB (Int.ofNat 1) 4))) := by kernel_rfl
theorem under4_2 : run Try.prog 200 8 12 [.sc (.int .i64 (Int.ofNat 2)), .sc (.int .i64 4)] = some (.sc (.bool (underB (Int.ofNat 2) 4))) := by kernel_rfl
theorem under4_3 : run Try.prog 200 8 12 [.sc (.int .i64 (Int.ofNat 3)), .sc (.int .i64 4)] = some (.sc (.bool (underB (Int.ofNat 3) 4))) := by kernel_rfl
theorem under4_4 : run Try.prog 200 8 12 [.sc (.int .i64 (Int.ofNat 4)), .sc (.int .i64 4)] = some (.sc (.bool (underB (Int.ofNat 4) 4))) := by kernel_rfl
theorem under4_5 : run Try.prog 200 8 12 [.sc (.int .i64 (Int.ofNat 5)), .sc (.int .i64 4)] = some (.sc (.bool (underB (Int.ofNat 5) 4))) := by kernel_rfl
theorem under4_6 : run Try.prog 200 8 12 [.sc (.int .i64 (Int.ofNat 6)), .sc (.int .i64 4)] = some (.sc (.bool (underB (Int.ofNat 6) 4))) := by kernel_rfl
theorem under4_7 : run Try.prog 200 8 12 [.sc (.int .i64 (Int.ofNat 7)), .sc (.int .i64 4)] = some (.sc (.bool (underB (Int.ofNat 7) 4))) := by kernel_rfl
theorem under4_8 : run Try.prog 200 8 12 [.sc (.int .i64 (Int.ofNat 8)), .sc (.int .i64 4)] = some (.sc (.bool (underB (Int.ofNat 8) 4))) := by kernel_rfl
theorem under4_9 : run Try.prog 200 8 12 [.sc (.int .i64 (Int.ofNat 9)), .sc (.int .i64 4)] = some (.sc (.bool (underB (Int.ofNat 9) 4))) := by kernel_rfl
theorem under4_10 : run Try.prog 200 8 12 [.sc (.int .i64 (Int.ofNat 10)), .sc (.int .i64 4)] = some (.sc (.bool (underB (Int.ofNat 10) 4))) := by kernel_rfl
theorem under4_11 : run Try.prog 200 8 12 [.sc (.int .i64 (Int.ofNat 11)), .sc (.int .i64 4)] = some (.sc (.bool (underB (Int.ofNat 11) 4))) := by kernel_rfl
theorem under4_12 : run Try.prog 200 8 12 [.sc (.int .i64 (Int.ofNat 12)), .sc (.int .i64 4)] = some (.sc (.bool (underB (Int.ofNat 12) 4))) := by kernel_rfl
theorem under4_13 : run Try.prog 200 8 12 [.sc (.int .i64 (Int.ofNat 13)), .sc (.int .i64 4)] = some (.sc (.bool (underB (Int.ofNat 13) 4))) := by kernel_rfl
theorem under4_14 : run Try.prog 200 8 12 [.sc (.int .i64 (Int.ofNat 14)), .sc (.int .i64 4)] = some (.sc (.bool (underB (Int.ofNat 14) 4))) := by kernel_rfl
theorem under4 (x : Int) : run Try.prog 200 8 12 [.sc (.int .i64 x), .sc (.int .i64 4)] = some (.sc (.bool (underB x 4))) := by
  rcases int_cases x 15 with ⟨m, rfl⟩ | ⟨j, hj, rfl⟩ | ⟨m, rfl⟩
  · kernel_rfl
  · match j, hj with
    | 0, _ => exact under4_0
    | 1, _ => exact under4_1
    | 2, _ => exact under4_2
    | 3, _ => exact under4_3
    | 4, _ => exact under4_4
    | 5, _ => exact under4_5
    | 6, _ => exact under4_6
    | 7, _ => exact under4_7
    | 8, _ => exact under4_8
    | 9, _ => exact under4_9
    | 10, _ => exact under4_10
    | 11, _ => exact under4_11
    | 12, _ => exact under4_12
    | 13, _ => exact under4_13
    | 14, _ => exact under4_14
  · kernel_rfl
theorem under5_0 : run Try.prog 200 8 12 [.sc (.int .i64 (Int.ofNat 0)), .sc (.int .i64 5)] = some (.sc (.bool (underB (Int.ofNat 0) 5))) := by kernel_rfl
theorem under5_1 : run Try.prog 200 8 12 [.sc (.int .i64 (Int.ofNat 1)), .sc (.int .i64 5)] = some (.sc (.bool (underB (Int.ofNat 1) 5))) := by kernel_rfl
theorem under5_2 : run Try.prog 200 8 12 [.sc (.int .i64 (Int.ofNat 2)), .sc (.int .i64 5)] = some (.sc (.bool (underB (Int.ofNat 2) 5))) := by kernel_rfl
theorem under5_3 : run Try.prog 200 8 12 [.sc (.int .i64 (Int.ofNat 3)), .sc (.int .i64 5)] = some (.sc (.bool (underB (Int.ofNat 3) 5))) := by kernel_rfl
theorem under5_4 : run Try.prog 200 8 12 [.sc (.int .i64 (Int.ofNat 4)), .sc (.int .i64 5)] = some (.sc (.bool (underB (Int.ofNat 4) 5))) := by kernel_rfl
theorem under5_5 : run Try.prog 200 8 12 [.sc (.int .i64 (Int.ofNat 5)), .sc (.int .i64 5)] = some (.sc (.bool (underB (Int.ofNat 5) 5))) := by kernel_rfl
theorem under5_6 : run Try.prog 200 8 12 [.sc (.int .i64 (Int.ofNat 6)), .sc (.int .i64 5)] = some (.sc (.bool (underB (Int.ofNat 6) 5))) := by kernel_rfl
theorem under5_7 : run Try.prog 200 8 12 [.sc (.int .i64 (Int.ofNat 7)), .sc (.int .i64 5)] = some (.sc (.bool (underB (Int.ofNat 7) 5))) := by kernel_rfl
theorem under5_8 : run Try.prog 200 8 12 [.sc (.int .i64 (Int.ofNat 8)), .sc (.int .i64 5)] = some (.sc (.bool (underB (Int.ofNat 8) 5))) := by kernel_rfl
theorem under5_9 : run Try.prog 200 8 12 [.sc (.int .i64 (Int.ofNat 9)), .sc (.int .i64 5)] = some (.sc (.bool (underB (Int.ofNat 9) 5))) := by kernel_rfl
theorem under5_10 : run Try.prog 200 8 12 [.sc (.int .i64 (Int.ofNat 10)), .sc (.int .i64 5)] = some (.sc (.bool (underB (Int.ofNat 10) 5))) := by kernel_rfl
theorem under5_11 : run Try.prog 200 8 12 [.sc (.int .i64 (Int.ofNat 11)), .sc (.int .i64 5)] = some (.sc (.bool (underB (Int.ofNat 11) 5))) := by kernel_rfl
theorem under5_12 : run Try.prog 200 8 12 [.sc (.int .i64 (Int.ofNat 12)), .sc (.int .i64 5)] = some (.sc (.bool (underB (Int.ofNat 12) 5))) := by kernel_rfl
theorem under5_13 : run Try.prog 200 8 12 [.sc (.int .i64 (Int.ofNat 13)), .sc (.int .i64 5)] = some (.sc (.bool (underB (Int.ofNat 13) 5))) := by kernel_rfl
theorem under5_14 : run Try.prog 200 8 12 [.sc (.int .i64 (Int.ofNat 14)), .sc (.int .i64 5)] = some (.sc (.bool (underB (Int.ofNat 14) 5))) := by kernel_rfl
theorem under5 (x : Int) : run Try.prog 200 8 12 [.sc (.int .i64 x), .sc (.int .i64 5)] = some (.sc (.bool (underB x 5))) := by
  rcases int_cases x 15 with ⟨m, rfl⟩ | ⟨j, hj, rfl⟩ | ⟨m, rfl⟩
  · kernel_rfl
  · match j, hj with
    | 0, _ => exact under5_0
    | 1, _ => exact under5_1
    | 2, _ => exact under5_2
    | 3, _ => exact under5_3
    | 4, _ => exact under5_4
    | 5, _ => exact under5_5
    | 6, _ => exact under5_6
    | 7, _ => exact under5_7
    | 8, _ => exact under5_8
    | 9, _ => exact under5_9
    | 10, _ => exact under5_10
    | 11, _ => exact under5_11
    | 12, _ => exact under5_12
    | 13, _ => exact under5_13
    | 14, _ => exact under5_14
  · kernel_rfl
theorem under6_0 : run Try.prog 200 8 12 [.sc (.int .i64 (Int.ofNat 0)), .sc (.int .i64 6)] = some (.sc (.bool (underB (Int.ofNat 0) 6))) := by kernel_rfl
theorem under6_1 : run Try.prog 200 8 12 [.sc (.int .i64 (Int.ofNat 1)), .sc (.int .i64 6)] = some (.sc (.bool (underB (Int.ofNat 1) 6))) := by kernel_rfl
theorem under6_2 : run Try.prog 200 8 12 [.sc (.int .i64 (Int.ofNat 2)), .sc (.int .i64 6)] = some (.sc (.bool (underB (Int.ofNat 2) 6))) := by kernel_rfl
theorem under6_3 : run Try.prog 200 8 12 [.sc (.int .i64 (Int.ofNat 3)), .sc (.int .i64 6)] = some (.sc (.bool (underB (Int.ofNat 3) 6))) := by kernel_rfl
theorem under6_4 : run Try.prog 200 8 12 [.sc (.int .i64 (Int.ofNat 4)), .sc (.int .i64 6)] = some (.sc (.bool (underB (Int.ofNat 4) 6))) := by kernel_rfl
theorem under6_5 : run Try.prog 200 8 12 [.sc (.int .i64 (Int.ofNat 5)), .sc (.int .i64 6)] = some (.sc (.bool (underB (Int.ofNat 5) 6))) := by kernel_rfl
theorem under6_6 : run Try.prog 200 8 12 [.sc (.int .i64 (Int.ofNat 6)), .sc (.int .i64 6)] = some (.sc (.bool (underB (Int.ofNat 6) 6))) := by kernel_rfl
theorem under6_7 : run Try.prog 200 8 12 [.sc (.int .i64 (Int.ofNat 7)), .sc (.int .i64 6)] = some (.sc (.bool (underB (Int.ofNat 7) 6))) := by kernel_rfl
theorem under6_8 : run Try.prog 200 8 12 [.sc (.int .i64 (Int.ofNat 8)), .sc (.int .i64 6)] = some (.sc (.bool (underB (Int.ofNat 8) 6))) := by kernel_rfl
theorem under6_9 : run Try.prog 200 8 12 [.sc (.int .i64 (Int.ofNat 9)), .sc (.int .i64 6)] = some (.sc (.bool (underB (Int.ofNat 9) 6))) := by kernel_rfl
theorem under6_10 : run Try.prog 200 8 12 [.sc (.int .i64 (Int.ofNat 10)), .sc (.int .i64 6)] = some (.sc (.bool (underB (Int.ofNat 10) 6))) := by kernel_rfl
theorem under6_11 : run Try.prog 200 8 12 [.sc (.int .i64 (Int.ofNat 11)), .sc (.int .i64 6)] = some (.sc (.bool (underB (Int.ofNat 11) 6))) := by kernel_rfl
theorem under6_12 : run Try.prog 200 8 12 [.sc (.int .i64 (Int.ofNat 12)), .sc (.int .i64 6)] = some (.sc (.bool (underB (Int.ofNat 12) 6))) := by kernel_rfl
theorem under6_13 : run Try.prog 200 8 12 [.sc (.int .i64 (Int.ofNat 13)), .sc (.int .i64 6)] = some (.sc (.bool (underB (Int.ofNat 13) 6))) := by kernel_rfl
theorem under6_14 : run Try.prog 200 8 12 [.sc (.int .i64 (Int.ofNat 14)), .sc (.int .i64 6)] = some (.sc (.bool (underB (Int.ofNat 14) 6))) := by kernel_rfl
theorem under6 (x : Int) : run Try.prog 200 8 12 [.sc (.int .i64 x), .sc (.int .i64 6)] = some (.sc (.bool (underB x 6))) := by
  rcases int_cases x 15 with ⟨m, rfl⟩ | ⟨j, hj, rfl⟩ | ⟨m, rfl⟩
  · kernel_rfl
  · match j, hj with
    | 0, _ => exact under6_0
    | 1, _ => exact under6_1
    | 2, _ => exact under6_2
    | 3, _ => exact under6_3
    | 4, _ => exact under6_4
    | 5, _ => exact under6_5
    | 6, _ => exact under6_6
    | 7, _ => exact under6_7
    | 8, _ => exact under6_8
    | 9, _ => exact under6_9
    | 10, _ => exact under6_10
    | 11, _ => exact under6_11
    | 12, _ => exact under6_12
    | 13, _ => exact under6_13
    | 14, _ => exact under6_14
  · kernel_rfl
theorem under7_0 : run Try.prog 200 8 12 [.sc (.int .i64 (Int.ofNat 0)), .sc (.int .i64 7)] = some (.sc (.bool (underB (Int.ofNat 0) 7))) := by kernel_rfl
theorem under7_1 : run Try.prog 200 8 12 [.sc (.int .i64 (Int.ofNat 1)), .sc (.int .i64 7)] = some (.sc (.bool (underB (Int.ofNat 1) 7))) := by kernel_rfl
theorem under7_2 : run Try.prog 200 8 12 [.sc (.int .i64 (Int.ofNat 2)), .sc (.int .i64 7)] = some (.sc (.bool (underB (Int.ofNat 2) 7))) := by kernel_rfl
theorem under7_3 : run Try.prog 200 8 12 [.sc (.int .i64 (Int.ofNat 3)), .sc (.int .i64 7)] = some (.sc (.bool (underB (Int.ofNat 3) 7))) := by kernel_rfl
theorem under7_4 : run Try.prog 200 8 12 [.sc (.int .i64 (Int.ofNat 4)), .sc (.int .i64 7)] = some (.sc (.bool (underB (Int.ofNat 4) 7))) := by kernel_rfl
theorem under7_5 : run Try.prog 200 8 12 [.sc (.int .i64 (Int.ofNat 5)), .sc (.int .i64 7)] = some (.sc (.bool (underB (Int.ofNat 5) 7))) := by kernel_rfl
theorem under7_6 : run Try.prog 200 8 12 [.sc (.int .i64 (Int.ofNat 6)), .sc (.int .i64 7)] = some (.sc (.bool (underB (Int.ofNat 6) 7))) := by kernel_rfl
theorem under7_7 : run Try.prog 200 8 12 [.sc (.int .i64 (Int.ofNat 7)), .sc (.int .i64 7)] = some (.sc (.bool (underB (Int.ofNat 7) 7))) := by kernel_rfl
theorem under7_8 : run Try.prog 200 8 12 [.sc (.int .i64 (Int.ofNat 8)), .sc (.int .i64 7)] = some (.sc (.bool (underB (Int.ofNat 8) 7))) := by kernel_rfl
theorem under7_9 : run Try.prog 200 8 12 [.sc (.int .i64 (Int.ofNat 9)), .sc (.int .i64 7)] = some (.sc (.bool (underB (Int.ofNat 9) 7))) := by kernel_rfl
theorem under7_10 : run Try.prog 200 8 12 [.sc (.int .i64 (Int.ofNat 10)), .sc (.int .i64 7)] = some (.sc (.bool (underB (Int.ofNat 10) 7))) := by kernel_rfl
theorem under7_11 : run Try.prog 200 8 12 [.sc (.int .i64 (Int.ofNat 11)), .sc (.int .i64 7)] = some (.sc (.bool (underB (Int.ofNat 11) 7))) := by kernel_rfl
theorem under7_12 : run Try.prog 200 8 12 [.sc (.int .i64 (Int.ofNat 12)), .sc (.int .i64 7)] = some (.sc (.bool (underB (Int.ofNat 12) 7))) := by kernel_rfl
theorem under7_13 : run Try.prog 200 8 12 [.sc (.int .i64 (Int.ofNat 13)), .sc (.int .i64 7)] = some (.sc (.bool (underB (Int.ofNat 13) 7))) := by kernel_rfl
theorem under7_14 : run Try.prog 200 8 12 [.sc (.int .i64 (Int.ofNat 14)), .sc (.int .i64 7)] = some (.sc (.bool (underB (Int.ofNat 14) 7))) := by kernel_rfl
theorem under7 (x : Int) : run Try.prog 200 8 12 [.sc (.int .i64 x), .sc (.int .i64 7)] = some (.sc (.bool (underB x 7))) := by
  rcases int_cases x 15 with ⟨m, rfl⟩ | ⟨j, hj, rfl⟩ | ⟨m, rfl⟩
  · kernel_rfl
  · match j, hj with
    | 0, _ => exact under7_0
    | 1, _ => exact under7_1
    | 2, _ => exact under7_2
    | 3, _ => exact under7_3
    | 4, _ => exact under7_4
    | 5, _ => exact under7_5
    | 6, _ => exact under7_6
    | 7, _ => exact under7_7
    | 8, _ => exact under7_8
    | 9, _ => exact under7_9
    | 10, _ => exact under7_10
    | 11, _ => exact under7_11
    | 12, _ => exact under7_12
    | 13, _ => exact under7_13
    | 14, _ => exact under7_14
  · kernel_rfl
def undT : CT := fun g args n σ =>
  if Nat.beq g 12 then match args with
    | [.sc (.int .i64 x), .sc (.int .i64 (Int.ofNat i))] => some ((.sc (.bool (underB x i)), [], []), Nat.blt i 8)
    | _ => none
  else none
theorem undT_ok : CTOk Try.prog undT := by
  intro g args n σ r news muts h
  unfold undT at h
  split at h
  · rename_i hg
    obtain rfl := Nat.eq_of_beq_eq_true hg
    split at h
    · rename_i x i
      simp only [Option.some.injEq, Prod.mk.injEq] at h
      obtain ⟨⟨rfl, rfl, rfl⟩, h⟩ := h
      have hi : i < 8 := Nat.le_of_ble_eq_true h
      rw [ext_nil]
      have key : run Try.prog 200 8 12 [.sc (.int .i64 x), .sc (.int .i64 (Int.ofNat i))] = some (.sc (.bool (underB x i))) := by
        match i, hi with
        | 0, _ => exact under0 x
        | 1, _ => exact under1 x
        | 2, _ => exact under2 x
        | 3, _ => exact under3 x
        | 4, _ => exact under4 x
        | 5, _ => exact under5 x
        | 6, _ => exact under6 x
        | 7, _ => exact under7 x
      exact (run_ok hm _ _ _ _ _ key n).any σ
    · cases h
  · cases h
/-- how often a place is under a row of nodes. -/
def ucnt : List Int → Nat → Nat
  | [], _ => 0
  | x :: l, i => (bif underB x i then 1 else 0) + ucnt l i
theorem ucnt_app (i : Nat) : ∀ (a b : List Int), ucnt (a ++ b) i = ucnt a i + ucnt b i
  | [], b => by simp [ucnt]
  | x :: a, b => by simp only [List.cons_append, ucnt]; rw [ucnt_app i a b]; omega
theorem ucnt_node {k j : Int} {l : List Int} {i : Nat} : ucnt (nodeR k j l) i = bif !eqb k 0 then (bif underB j i then 1 else 0) else ucnt l i := by
  unfold nodeR; cases eqb k 0 <;> simp [ucnt]
theorem ucnt_drop (l : List Int) (k i : Nat) (h : k < l.length) : ucnt (l.drop k) i = (bif underB (l.getD k 0) i then 1 else 0) + ucnt (l.drop (k + 1)) i := by
  rw [List.drop_eq_getElem_cons h]
  simp [ucnt, List.getD, h]
theorem ucnt_len (i : Nat) : ∀ l : List Int, ucnt l i ≤ l.length
  | [] => Nat.le_refl 0
  | x :: l => by have := ucnt_len i l; simp only [ucnt, List.length_cons]; cases underB x i <;> simp <;> omega

theorem c0_0 (z : Nat → Int) : ucnt (resL z 0) 0 ≤ 1 ∧ (eqb (z 1) 0 = false → ucnt (resL z 0) 0 = 1) := by
  have e : ucnt (resL z 0) 0 = bif !eqb (z 1) 0 then (bif underB 0 0 then 1 else 0) else ucnt [] 0 := ucnt_node
  have hu : underB 0 0 = true := rfl
  rw [hu] at e
  cases h : eqb (z 1) 0 <;> rw [h] at e <;> simp [ucnt] at e <;> simp [e]
theorem c0_1 (z : Nat → Int) : ucnt (resL z 0) 1 = 0 := by
  have e : ucnt (resL z 0) 1 = bif !eqb (z 1) 0 then (bif underB 0 1 then 1 else 0) else ucnt [] 1 := ucnt_node
  have hu : underB 0 1 = false := rfl
  rw [hu] at e
  cases h : eqb (z 1) 0 <;> rw [h] at e <;> simp [ucnt] at e <;> simp [e]
theorem c0_2 (z : Nat → Int) : ucnt (resL z 0) 2 = 0 := by
  have e : ucnt (resL z 0) 2 = bif !eqb (z 1) 0 then (bif underB 0 2 then 1 else 0) else ucnt [] 2 := ucnt_node
  have hu : underB 0 2 = false := rfl
  rw [hu] at e
  cases h : eqb (z 1) 0 <;> rw [h] at e <;> simp [ucnt] at e <;> simp [e]
theorem c0_3 (z : Nat → Int) : ucnt (resL z 0) 3 = 0 := by
  have e : ucnt (resL z 0) 3 = bif !eqb (z 1) 0 then (bif underB 0 3 then 1 else 0) else ucnt [] 3 := ucnt_node
  have hu : underB 0 3 = false := rfl
  rw [hu] at e
  cases h : eqb (z 1) 0 <;> rw [h] at e <;> simp [ucnt] at e <;> simp [e]
theorem c0_4 (z : Nat → Int) : ucnt (resL z 0) 4 = 0 := by
  have e : ucnt (resL z 0) 4 = bif !eqb (z 1) 0 then (bif underB 0 4 then 1 else 0) else ucnt [] 4 := ucnt_node
  have hu : underB 0 4 = false := rfl
  rw [hu] at e
  cases h : eqb (z 1) 0 <;> rw [h] at e <;> simp [ucnt] at e <;> simp [e]
theorem c0_5 (z : Nat → Int) : ucnt (resL z 0) 5 = 0 := by
  have e : ucnt (resL z 0) 5 = bif !eqb (z 1) 0 then (bif underB 0 5 then 1 else 0) else ucnt [] 5 := ucnt_node
  have hu : underB 0 5 = false := rfl
  rw [hu] at e
  cases h : eqb (z 1) 0 <;> rw [h] at e <;> simp [ucnt] at e <;> simp [e]
theorem c0_6 (z : Nat → Int) : ucnt (resL z 0) 6 = 0 := by
  have e : ucnt (resL z 0) 6 = bif !eqb (z 1) 0 then (bif underB 0 6 then 1 else 0) else ucnt [] 6 := ucnt_node
  have hu : underB 0 6 = false := rfl
  rw [hu] at e
  cases h : eqb (z 1) 0 <;> rw [h] at e <;> simp [ucnt] at e <;> simp [e]
theorem c0_7 (z : Nat → Int) : ucnt (resL z 0) 7 = 0 := by
  have e : ucnt (resL z 0) 7 = bif !eqb (z 1) 0 then (bif underB 0 7 then 1 else 0) else ucnt [] 7 := ucnt_node
  have hu : underB 0 7 = false := rfl
  rw [hu] at e
  cases h : eqb (z 1) 0 <;> rw [h] at e <;> simp [ucnt] at e <;> simp [e]
theorem c2_0 (z : Nat → Int) : ucnt (resL z 2) 0 = 0 := by
  have e : ucnt (resL z 2) 0 = bif !eqb (z 3) 0 then (bif underB 2 0 then 1 else 0) else ucnt [] 0 := ucnt_node
  have hu : underB 2 0 = false := rfl
  rw [hu] at e
  cases h : eqb (z 3) 0 <;> rw [h] at e <;> simp [ucnt] at e <;> simp [e]
theorem c2_1 (z : Nat → Int) : ucnt (resL z 2) 1 ≤ 1 ∧ (eqb (z 3) 0 = false → ucnt (resL z 2) 1 = 1) := by
  have e : ucnt (resL z 2) 1 = bif !eqb (z 3) 0 then (bif underB 2 1 then 1 else 0) else ucnt [] 1 := ucnt_node
  have hu : underB 2 1 = true := rfl
  rw [hu] at e
  cases h : eqb (z 3) 0 <;> rw [h] at e <;> simp [ucnt] at e <;> simp [e]
theorem c2_2 (z : Nat → Int) : ucnt (resL z 2) 2 = 0 := by
  have e : ucnt (resL z 2) 2 = bif !eqb (z 3) 0 then (bif underB 2 2 then 1 else 0) else ucnt [] 2 := ucnt_node
  have hu : underB 2 2 = false := rfl
  rw [hu] at e
  cases h : eqb (z 3) 0 <;> rw [h] at e <;> simp [ucnt] at e <;> simp [e]
theorem c2_3 (z : Nat → Int) : ucnt (resL z 2) 3 = 0 := by
  have e : ucnt (resL z 2) 3 = bif !eqb (z 3) 0 then (bif underB 2 3 then 1 else 0) else ucnt [] 3 := ucnt_node
  have hu : underB 2 3 = false := rfl
  rw [hu] at e
  cases h : eqb (z 3) 0 <;> rw [h] at e <;> simp [ucnt] at e <;> simp [e]
theorem c2_4 (z : Nat → Int) : ucnt (resL z 2) 4 = 0 := by
  have e : ucnt (resL z 2) 4 = bif !eqb (z 3) 0 then (bif underB 2 4 then 1 else 0) else ucnt [] 4 := ucnt_node
  have hu : underB 2 4 = false := rfl
  rw [hu] at e
  cases h : eqb (z 3) 0 <;> rw [h] at e <;> simp [ucnt] at e <;> simp [e]
theorem c2_5 (z : Nat → Int) : ucnt (resL z 2) 5 = 0 := by
  have e : ucnt (resL z 2) 5 = bif !eqb (z 3) 0 then (bif underB 2 5 then 1 else 0) else ucnt [] 5 := ucnt_node
  have hu : underB 2 5 = false := rfl
  rw [hu] at e
  cases h : eqb (z 3) 0 <;> rw [h] at e <;> simp [ucnt] at e <;> simp [e]
theorem c2_6 (z : Nat → Int) : ucnt (resL z 2) 6 = 0 := by
  have e : ucnt (resL z 2) 6 = bif !eqb (z 3) 0 then (bif underB 2 6 then 1 else 0) else ucnt [] 6 := ucnt_node
  have hu : underB 2 6 = false := rfl
  rw [hu] at e
  cases h : eqb (z 3) 0 <;> rw [h] at e <;> simp [ucnt] at e <;> simp [e]
theorem c2_7 (z : Nat → Int) : ucnt (resL z 2) 7 = 0 := by
  have e : ucnt (resL z 2) 7 = bif !eqb (z 3) 0 then (bif underB 2 7 then 1 else 0) else ucnt [] 7 := ucnt_node
  have hu : underB 2 7 = false := rfl
  rw [hu] at e
  cases h : eqb (z 3) 0 <;> rw [h] at e <;> simp [ucnt] at e <;> simp [e]
theorem c4_0 (z : Nat → Int) : ucnt (resL z 4) 0 = 0 := by
  have e : ucnt (resL z 4) 0 = bif !eqb (z 5) 0 then (bif underB 4 0 then 1 else 0) else ucnt [] 0 := ucnt_node
  have hu : underB 4 0 = false := rfl
  rw [hu] at e
  cases h : eqb (z 5) 0 <;> rw [h] at e <;> simp [ucnt] at e <;> simp [e]
theorem c4_1 (z : Nat → Int) : ucnt (resL z 4) 1 = 0 := by
  have e : ucnt (resL z 4) 1 = bif !eqb (z 5) 0 then (bif underB 4 1 then 1 else 0) else ucnt [] 1 := ucnt_node
  have hu : underB 4 1 = false := rfl
  rw [hu] at e
  cases h : eqb (z 5) 0 <;> rw [h] at e <;> simp [ucnt] at e <;> simp [e]
theorem c4_2 (z : Nat → Int) : ucnt (resL z 4) 2 ≤ 1 ∧ (eqb (z 5) 0 = false → ucnt (resL z 4) 2 = 1) := by
  have e : ucnt (resL z 4) 2 = bif !eqb (z 5) 0 then (bif underB 4 2 then 1 else 0) else ucnt [] 2 := ucnt_node
  have hu : underB 4 2 = true := rfl
  rw [hu] at e
  cases h : eqb (z 5) 0 <;> rw [h] at e <;> simp [ucnt] at e <;> simp [e]
theorem c4_3 (z : Nat → Int) : ucnt (resL z 4) 3 = 0 := by
  have e : ucnt (resL z 4) 3 = bif !eqb (z 5) 0 then (bif underB 4 3 then 1 else 0) else ucnt [] 3 := ucnt_node
  have hu : underB 4 3 = false := rfl
  rw [hu] at e
  cases h : eqb (z 5) 0 <;> rw [h] at e <;> simp [ucnt] at e <;> simp [e]
theorem c4_4 (z : Nat → Int) : ucnt (resL z 4) 4 = 0 := by
  have e : ucnt (resL z 4) 4 = bif !eqb (z 5) 0 then (bif underB 4 4 then 1 else 0) else ucnt [] 4 := ucnt_node
  have hu : underB 4 4 = false := rfl
  rw [hu] at e
  cases h : eqb (z 5) 0 <;> rw [h] at e <;> simp [ucnt] at e <;> simp [e]
theorem c4_5 (z : Nat → Int) : ucnt (resL z 4) 5 = 0 := by
  have e : ucnt (resL z 4) 5 = bif !eqb (z 5) 0 then (bif underB 4 5 then 1 else 0) else ucnt [] 5 := ucnt_node
  have hu : underB 4 5 = false := rfl
  rw [hu] at e
  cases h : eqb (z 5) 0 <;> rw [h] at e <;> simp [ucnt] at e <;> simp [e]
theorem c4_6 (z : Nat → Int) : ucnt (resL z 4) 6 = 0 := by
  have e : ucnt (resL z 4) 6 = bif !eqb (z 5) 0 then (bif underB 4 6 then 1 else 0) else ucnt [] 6 := ucnt_node
  have hu : underB 4 6 = false := rfl
  rw [hu] at e
  cases h : eqb (z 5) 0 <;> rw [h] at e <;> simp [ucnt] at e <;> simp [e]
theorem c4_7 (z : Nat → Int) : ucnt (resL z 4) 7 = 0 := by
  have e : ucnt (resL z 4) 7 = bif !eqb (z 5) 0 then (bif underB 4 7 then 1 else 0) else ucnt [] 7 := ucnt_node
  have hu : underB 4 7 = false := rfl
  rw [hu] at e
  cases h : eqb (z 5) 0 <;> rw [h] at e <;> simp [ucnt] at e <;> simp [e]
theorem c6_0 (z : Nat → Int) : ucnt (resL z 6) 0 = 0 := by
  have e : ucnt (resL z 6) 0 = bif !eqb (z 7) 0 then (bif underB 6 0 then 1 else 0) else ucnt [] 0 := ucnt_node
  have hu : underB 6 0 = false := rfl
  rw [hu] at e
  cases h : eqb (z 7) 0 <;> rw [h] at e <;> simp [ucnt] at e <;> simp [e]
theorem c6_1 (z : Nat → Int) : ucnt (resL z 6) 1 = 0 := by
  have e : ucnt (resL z 6) 1 = bif !eqb (z 7) 0 then (bif underB 6 1 then 1 else 0) else ucnt [] 1 := ucnt_node
  have hu : underB 6 1 = false := rfl
  rw [hu] at e
  cases h : eqb (z 7) 0 <;> rw [h] at e <;> simp [ucnt] at e <;> simp [e]
theorem c6_2 (z : Nat → Int) : ucnt (resL z 6) 2 = 0 := by
  have e : ucnt (resL z 6) 2 = bif !eqb (z 7) 0 then (bif underB 6 2 then 1 else 0) else ucnt [] 2 := ucnt_node
  have hu : underB 6 2 = false := rfl
  rw [hu] at e
  cases h : eqb (z 7) 0 <;> rw [h] at e <;> simp [ucnt] at e <;> simp [e]
theorem c6_3 (z : Nat → Int) : ucnt (resL z 6) 3 ≤ 1 ∧ (eqb (z 7) 0 = false → ucnt (resL z 6) 3 = 1) := by
  have e : ucnt (resL z 6) 3 = bif !eqb (z 7) 0 then (bif underB 6 3 then 1 else 0) else ucnt [] 3 := ucnt_node
  have hu : underB 6 3 = true := rfl
  rw [hu] at e
  cases h : eqb (z 7) 0 <;> rw [h] at e <;> simp [ucnt] at e <;> simp [e]
theorem c6_4 (z : Nat → Int) : ucnt (resL z 6) 4 = 0 := by
  have e : ucnt (resL z 6) 4 = bif !eqb (z 7) 0 then (bif underB 6 4 then 1 else 0) else ucnt [] 4 := ucnt_node
  have hu : underB 6 4 = false := rfl
  rw [hu] at e
  cases h : eqb (z 7) 0 <;> rw [h] at e <;> simp [ucnt] at e <;> simp [e]
theorem c6_5 (z : Nat → Int) : ucnt (resL z 6) 5 = 0 := by
  have e : ucnt (resL z 6) 5 = bif !eqb (z 7) 0 then (bif underB 6 5 then 1 else 0) else ucnt [] 5 := ucnt_node
  have hu : underB 6 5 = false := rfl
  rw [hu] at e
  cases h : eqb (z 7) 0 <;> rw [h] at e <;> simp [ucnt] at e <;> simp [e]
theorem c6_6 (z : Nat → Int) : ucnt (resL z 6) 6 = 0 := by
  have e : ucnt (resL z 6) 6 = bif !eqb (z 7) 0 then (bif underB 6 6 then 1 else 0) else ucnt [] 6 := ucnt_node
  have hu : underB 6 6 = false := rfl
  rw [hu] at e
  cases h : eqb (z 7) 0 <;> rw [h] at e <;> simp [ucnt] at e <;> simp [e]
theorem c6_7 (z : Nat → Int) : ucnt (resL z 6) 7 = 0 := by
  have e : ucnt (resL z 6) 7 = bif !eqb (z 7) 0 then (bif underB 6 7 then 1 else 0) else ucnt [] 7 := ucnt_node
  have hu : underB 6 7 = false := rfl
  rw [hu] at e
  cases h : eqb (z 7) 0 <;> rw [h] at e <;> simp [ucnt] at e <;> simp [e]
theorem c8_0 (z : Nat → Int) : ucnt (resL z 8) 0 = 0 := by
  have e : ucnt (resL z 8) 0 = bif !eqb (z 9) 0 then (bif underB 8 0 then 1 else 0) else ucnt [] 0 := ucnt_node
  have hu : underB 8 0 = false := rfl
  rw [hu] at e
  cases h : eqb (z 9) 0 <;> rw [h] at e <;> simp [ucnt] at e <;> simp [e]
theorem c8_1 (z : Nat → Int) : ucnt (resL z 8) 1 = 0 := by
  have e : ucnt (resL z 8) 1 = bif !eqb (z 9) 0 then (bif underB 8 1 then 1 else 0) else ucnt [] 1 := ucnt_node
  have hu : underB 8 1 = false := rfl
  rw [hu] at e
  cases h : eqb (z 9) 0 <;> rw [h] at e <;> simp [ucnt] at e <;> simp [e]
theorem c8_2 (z : Nat → Int) : ucnt (resL z 8) 2 = 0 := by
  have e : ucnt (resL z 8) 2 = bif !eqb (z 9) 0 then (bif underB 8 2 then 1 else 0) else ucnt [] 2 := ucnt_node
  have hu : underB 8 2 = false := rfl
  rw [hu] at e
  cases h : eqb (z 9) 0 <;> rw [h] at e <;> simp [ucnt] at e <;> simp [e]
theorem c8_3 (z : Nat → Int) : ucnt (resL z 8) 3 = 0 := by
  have e : ucnt (resL z 8) 3 = bif !eqb (z 9) 0 then (bif underB 8 3 then 1 else 0) else ucnt [] 3 := ucnt_node
  have hu : underB 8 3 = false := rfl
  rw [hu] at e
  cases h : eqb (z 9) 0 <;> rw [h] at e <;> simp [ucnt] at e <;> simp [e]
theorem c8_4 (z : Nat → Int) : ucnt (resL z 8) 4 ≤ 1 ∧ (eqb (z 9) 0 = false → ucnt (resL z 8) 4 = 1) := by
  have e : ucnt (resL z 8) 4 = bif !eqb (z 9) 0 then (bif underB 8 4 then 1 else 0) else ucnt [] 4 := ucnt_node
  have hu : underB 8 4 = true := rfl
  rw [hu] at e
  cases h : eqb (z 9) 0 <;> rw [h] at e <;> simp [ucnt] at e <;> simp [e]
theorem c8_5 (z : Nat → Int) : ucnt (resL z 8) 5 = 0 := by
  have e : ucnt (resL z 8) 5 = bif !eqb (z 9) 0 then (bif underB 8 5 then 1 else 0) else ucnt [] 5 := ucnt_node
  have hu : underB 8 5 = false := rfl
  rw [hu] at e
  cases h : eqb (z 9) 0 <;> rw [h] at e <;> simp [ucnt] at e <;> simp [e]
theorem c8_6 (z : Nat → Int) : ucnt (resL z 8) 6 = 0 := by
  have e : ucnt (resL z 8) 6 = bif !eqb (z 9) 0 then (bif underB 8 6 then 1 else 0) else ucnt [] 6 := ucnt_node
  have hu : underB 8 6 = false := rfl
  rw [hu] at e
  cases h : eqb (z 9) 0 <;> rw [h] at e <;> simp [ucnt] at e <;> simp [e]
theorem c8_7 (z : Nat → Int) : ucnt (resL z 8) 7 = 0 := by
  have e : ucnt (resL z 8) 7 = bif !eqb (z 9) 0 then (bif underB 8 7 then 1 else 0) else ucnt [] 7 := ucnt_node
  have hu : underB 8 7 = false := rfl
  rw [hu] at e
  cases h : eqb (z 9) 0 <;> rw [h] at e <;> simp [ucnt] at e <;> simp [e]
theorem c10_0 (z : Nat → Int) : ucnt (resL z 10) 0 = 0 := by
  have e : ucnt (resL z 10) 0 = bif !eqb (z 11) 0 then (bif underB 10 0 then 1 else 0) else ucnt [] 0 := ucnt_node
  have hu : underB 10 0 = false := rfl
  rw [hu] at e
  cases h : eqb (z 11) 0 <;> rw [h] at e <;> simp [ucnt] at e <;> simp [e]
theorem c10_1 (z : Nat → Int) : ucnt (resL z 10) 1 = 0 := by
  have e : ucnt (resL z 10) 1 = bif !eqb (z 11) 0 then (bif underB 10 1 then 1 else 0) else ucnt [] 1 := ucnt_node
  have hu : underB 10 1 = false := rfl
  rw [hu] at e
  cases h : eqb (z 11) 0 <;> rw [h] at e <;> simp [ucnt] at e <;> simp [e]
theorem c10_2 (z : Nat → Int) : ucnt (resL z 10) 2 = 0 := by
  have e : ucnt (resL z 10) 2 = bif !eqb (z 11) 0 then (bif underB 10 2 then 1 else 0) else ucnt [] 2 := ucnt_node
  have hu : underB 10 2 = false := rfl
  rw [hu] at e
  cases h : eqb (z 11) 0 <;> rw [h] at e <;> simp [ucnt] at e <;> simp [e]
theorem c10_3 (z : Nat → Int) : ucnt (resL z 10) 3 = 0 := by
  have e : ucnt (resL z 10) 3 = bif !eqb (z 11) 0 then (bif underB 10 3 then 1 else 0) else ucnt [] 3 := ucnt_node
  have hu : underB 10 3 = false := rfl
  rw [hu] at e
  cases h : eqb (z 11) 0 <;> rw [h] at e <;> simp [ucnt] at e <;> simp [e]
theorem c10_4 (z : Nat → Int) : ucnt (resL z 10) 4 = 0 := by
  have e : ucnt (resL z 10) 4 = bif !eqb (z 11) 0 then (bif underB 10 4 then 1 else 0) else ucnt [] 4 := ucnt_node
  have hu : underB 10 4 = false := rfl
  rw [hu] at e
  cases h : eqb (z 11) 0 <;> rw [h] at e <;> simp [ucnt] at e <;> simp [e]
theorem c10_5 (z : Nat → Int) : ucnt (resL z 10) 5 ≤ 1 ∧ (eqb (z 11) 0 = false → ucnt (resL z 10) 5 = 1) := by
  have e : ucnt (resL z 10) 5 = bif !eqb (z 11) 0 then (bif underB 10 5 then 1 else 0) else ucnt [] 5 := ucnt_node
  have hu : underB 10 5 = true := rfl
  rw [hu] at e
  cases h : eqb (z 11) 0 <;> rw [h] at e <;> simp [ucnt] at e <;> simp [e]
theorem c10_6 (z : Nat → Int) : ucnt (resL z 10) 6 = 0 := by
  have e : ucnt (resL z 10) 6 = bif !eqb (z 11) 0 then (bif underB 10 6 then 1 else 0) else ucnt [] 6 := ucnt_node
  have hu : underB 10 6 = false := rfl
  rw [hu] at e
  cases h : eqb (z 11) 0 <;> rw [h] at e <;> simp [ucnt] at e <;> simp [e]
theorem c10_7 (z : Nat → Int) : ucnt (resL z 10) 7 = 0 := by
  have e : ucnt (resL z 10) 7 = bif !eqb (z 11) 0 then (bif underB 10 7 then 1 else 0) else ucnt [] 7 := ucnt_node
  have hu : underB 10 7 = false := rfl
  rw [hu] at e
  cases h : eqb (z 11) 0 <;> rw [h] at e <;> simp [ucnt] at e <;> simp [e]
theorem c12_0 (z : Nat → Int) : ucnt (resL z 12) 0 = 0 := by
  have e : ucnt (resL z 12) 0 = bif !eqb (z 13) 0 then (bif underB 12 0 then 1 else 0) else ucnt [] 0 := ucnt_node
  have hu : underB 12 0 = false := rfl
  rw [hu] at e
  cases h : eqb (z 13) 0 <;> rw [h] at e <;> simp [ucnt] at e <;> simp [e]
theorem c12_1 (z : Nat → Int) : ucnt (resL z 12) 1 = 0 := by
  have e : ucnt (resL z 12) 1 = bif !eqb (z 13) 0 then (bif underB 12 1 then 1 else 0) else ucnt [] 1 := ucnt_node
  have hu : underB 12 1 = false := rfl
  rw [hu] at e
  cases h : eqb (z 13) 0 <;> rw [h] at e <;> simp [ucnt] at e <;> simp [e]
theorem c12_2 (z : Nat → Int) : ucnt (resL z 12) 2 = 0 := by
  have e : ucnt (resL z 12) 2 = bif !eqb (z 13) 0 then (bif underB 12 2 then 1 else 0) else ucnt [] 2 := ucnt_node
  have hu : underB 12 2 = false := rfl
  rw [hu] at e
  cases h : eqb (z 13) 0 <;> rw [h] at e <;> simp [ucnt] at e <;> simp [e]
theorem c12_3 (z : Nat → Int) : ucnt (resL z 12) 3 = 0 := by
  have e : ucnt (resL z 12) 3 = bif !eqb (z 13) 0 then (bif underB 12 3 then 1 else 0) else ucnt [] 3 := ucnt_node
  have hu : underB 12 3 = false := rfl
  rw [hu] at e
  cases h : eqb (z 13) 0 <;> rw [h] at e <;> simp [ucnt] at e <;> simp [e]
theorem c12_4 (z : Nat → Int) : ucnt (resL z 12) 4 = 0 := by
  have e : ucnt (resL z 12) 4 = bif !eqb (z 13) 0 then (bif underB 12 4 then 1 else 0) else ucnt [] 4 := ucnt_node
  have hu : underB 12 4 = false := rfl
  rw [hu] at e
  cases h : eqb (z 13) 0 <;> rw [h] at e <;> simp [ucnt] at e <;> simp [e]
theorem c12_5 (z : Nat → Int) : ucnt (resL z 12) 5 = 0 := by
  have e : ucnt (resL z 12) 5 = bif !eqb (z 13) 0 then (bif underB 12 5 then 1 else 0) else ucnt [] 5 := ucnt_node
  have hu : underB 12 5 = false := rfl
  rw [hu] at e
  cases h : eqb (z 13) 0 <;> rw [h] at e <;> simp [ucnt] at e <;> simp [e]
theorem c12_6 (z : Nat → Int) : ucnt (resL z 12) 6 ≤ 1 ∧ (eqb (z 13) 0 = false → ucnt (resL z 12) 6 = 1) := by
  have e : ucnt (resL z 12) 6 = bif !eqb (z 13) 0 then (bif underB 12 6 then 1 else 0) else ucnt [] 6 := ucnt_node
  have hu : underB 12 6 = true := rfl
  rw [hu] at e
  cases h : eqb (z 13) 0 <;> rw [h] at e <;> simp [ucnt] at e <;> simp [e]
theorem c12_7 (z : Nat → Int) : ucnt (resL z 12) 7 = 0 := by
  have e : ucnt (resL z 12) 7 = bif !eqb (z 13) 0 then (bif underB 12 7 then 1 else 0) else ucnt [] 7 := ucnt_node
  have hu : underB 12 7 = false := rfl
  rw [hu] at e
  cases h : eqb (z 13) 0 <;> rw [h] at e <;> simp [ucnt] at e <;> simp [e]
theorem c14_0 (z : Nat → Int) : ucnt (resL z 14) 0 = 0 := by
  have e : ucnt (resL z 14) 0 = bif !eqb (z 15) 0 then (bif underB 14 0 then 1 else 0) else ucnt [] 0 := ucnt_node
  have hu : underB 14 0 = false := rfl
  rw [hu] at e
  cases h : eqb (z 15) 0 <;> rw [h] at e <;> simp [ucnt] at e <;> simp [e]
theorem c14_1 (z : Nat → Int) : ucnt (resL z 14) 1 = 0 := by
  have e : ucnt (resL z 14) 1 = bif !eqb (z 15) 0 then (bif underB 14 1 then 1 else 0) else ucnt [] 1 := ucnt_node
  have hu : underB 14 1 = false := rfl
  rw [hu] at e
  cases h : eqb (z 15) 0 <;> rw [h] at e <;> simp [ucnt] at e <;> simp [e]
theorem c14_2 (z : Nat → Int) : ucnt (resL z 14) 2 = 0 := by
  have e : ucnt (resL z 14) 2 = bif !eqb (z 15) 0 then (bif underB 14 2 then 1 else 0) else ucnt [] 2 := ucnt_node
  have hu : underB 14 2 = false := rfl
  rw [hu] at e
  cases h : eqb (z 15) 0 <;> rw [h] at e <;> simp [ucnt] at e <;> simp [e]
theorem c14_3 (z : Nat → Int) : ucnt (resL z 14) 3 = 0 := by
  have e : ucnt (resL z 14) 3 = bif !eqb (z 15) 0 then (bif underB 14 3 then 1 else 0) else ucnt [] 3 := ucnt_node
  have hu : underB 14 3 = false := rfl
  rw [hu] at e
  cases h : eqb (z 15) 0 <;> rw [h] at e <;> simp [ucnt] at e <;> simp [e]
theorem c14_4 (z : Nat → Int) : ucnt (resL z 14) 4 = 0 := by
  have e : ucnt (resL z 14) 4 = bif !eqb (z 15) 0 then (bif underB 14 4 then 1 else 0) else ucnt [] 4 := ucnt_node
  have hu : underB 14 4 = false := rfl
  rw [hu] at e
  cases h : eqb (z 15) 0 <;> rw [h] at e <;> simp [ucnt] at e <;> simp [e]
theorem c14_5 (z : Nat → Int) : ucnt (resL z 14) 5 = 0 := by
  have e : ucnt (resL z 14) 5 = bif !eqb (z 15) 0 then (bif underB 14 5 then 1 else 0) else ucnt [] 5 := ucnt_node
  have hu : underB 14 5 = false := rfl
  rw [hu] at e
  cases h : eqb (z 15) 0 <;> rw [h] at e <;> simp [ucnt] at e <;> simp [e]
theorem c14_6 (z : Nat → Int) : ucnt (resL z 14) 6 = 0 := by
  have e : ucnt (resL z 14) 6 = bif !eqb (z 15) 0 then (bif underB 14 6 then 1 else 0) else ucnt [] 6 := ucnt_node
  have hu : underB 14 6 = false := rfl
  rw [hu] at e
  cases h : eqb (z 15) 0 <;> rw [h] at e <;> simp [ucnt] at e <;> simp [e]
theorem c14_7 (z : Nat → Int) : ucnt (resL z 14) 7 ≤ 1 ∧ (eqb (z 15) 0 = false → ucnt (resL z 14) 7 = 1) := by
  have e : ucnt (resL z 14) 7 = bif !eqb (z 15) 0 then (bif underB 14 7 then 1 else 0) else ucnt [] 7 := ucnt_node
  have hu : underB 14 7 = true := rfl
  rw [hu] at e
  cases h : eqb (z 15) 0 <;> rw [h] at e <;> simp [ucnt] at e <;> simp [e]
theorem c1_0 (z : Nat → Int) : ucnt (resL z 1) 0 ≤ 1 ∧ (eqb (z 1) 0 = false → ucnt (resL z 1) 0 = 1) := by
  have e : ucnt (resL z 1) 0 = bif !eqb (z 17) 0 then (bif underB 1 0 then 1 else 0) else ucnt (resL z 0 ++ resL z 2) 0 := ucnt_node
  have hu : underB 1 0 = true := rfl
  have ha := c0_0 z
  have hb := c2_0 z
  rw [hu, ucnt_app] at e
  cases h : eqb (z 17) 0 <;> rw [h] at e <;> simp only [Bool.not_true, Bool.not_false, cond_true, cond_false] at e
  · exact ⟨by omega, fun _ => e⟩
  · exact ⟨by omega, fun hz => by have h1 := ha.2 hz; omega⟩
theorem c1_1 (z : Nat → Int) : ucnt (resL z 1) 1 ≤ 1 ∧ (eqb (z 3) 0 = false → ucnt (resL z 1) 1 = 1) := by
  have e : ucnt (resL z 1) 1 = bif !eqb (z 17) 0 then (bif underB 1 1 then 1 else 0) else ucnt (resL z 0 ++ resL z 2) 1 := ucnt_node
  have hu : underB 1 1 = true := rfl
  have ha := c0_1 z
  have hb := c2_1 z
  rw [hu, ucnt_app] at e
  cases h : eqb (z 17) 0 <;> rw [h] at e <;> simp only [Bool.not_true, Bool.not_false, cond_true, cond_false] at e
  · exact ⟨by omega, fun _ => e⟩
  · exact ⟨by omega, fun hz => by have h1 := hb.2 hz; omega⟩
theorem c1_2 (z : Nat → Int) : ucnt (resL z 1) 2 = 0 := by
  have e : ucnt (resL z 1) 2 = bif !eqb (z 17) 0 then (bif underB 1 2 then 1 else 0) else ucnt (resL z 0 ++ resL z 2) 2 := ucnt_node
  have hu : underB 1 2 = false := rfl
  have ha := c0_2 z
  have hb := c2_2 z
  rw [hu, ucnt_app] at e
  cases h : eqb (z 17) 0 <;> rw [h] at e <;> simp only [Bool.not_true, Bool.not_false, cond_true, cond_false] at e <;> omega
theorem c1_3 (z : Nat → Int) : ucnt (resL z 1) 3 = 0 := by
  have e : ucnt (resL z 1) 3 = bif !eqb (z 17) 0 then (bif underB 1 3 then 1 else 0) else ucnt (resL z 0 ++ resL z 2) 3 := ucnt_node
  have hu : underB 1 3 = false := rfl
  have ha := c0_3 z
  have hb := c2_3 z
  rw [hu, ucnt_app] at e
  cases h : eqb (z 17) 0 <;> rw [h] at e <;> simp only [Bool.not_true, Bool.not_false, cond_true, cond_false] at e <;> omega
theorem c1_4 (z : Nat → Int) : ucnt (resL z 1) 4 = 0 := by
  have e : ucnt (resL z 1) 4 = bif !eqb (z 17) 0 then (bif underB 1 4 then 1 else 0) else ucnt (resL z 0 ++ resL z 2) 4 := ucnt_node
  have hu : underB 1 4 = false := rfl
  have ha := c0_4 z
  have hb := c2_4 z
  rw [hu, ucnt_app] at e
  cases h : eqb (z 17) 0 <;> rw [h] at e <;> simp only [Bool.not_true, Bool.not_false, cond_true, cond_false] at e <;> omega
theorem c1_5 (z : Nat → Int) : ucnt (resL z 1) 5 = 0 := by
  have e : ucnt (resL z 1) 5 = bif !eqb (z 17) 0 then (bif underB 1 5 then 1 else 0) else ucnt (resL z 0 ++ resL z 2) 5 := ucnt_node
  have hu : underB 1 5 = false := rfl
  have ha := c0_5 z
  have hb := c2_5 z
  rw [hu, ucnt_app] at e
  cases h : eqb (z 17) 0 <;> rw [h] at e <;> simp only [Bool.not_true, Bool.not_false, cond_true, cond_false] at e <;> omega
theorem c1_6 (z : Nat → Int) : ucnt (resL z 1) 6 = 0 := by
  have e : ucnt (resL z 1) 6 = bif !eqb (z 17) 0 then (bif underB 1 6 then 1 else 0) else ucnt (resL z 0 ++ resL z 2) 6 := ucnt_node
  have hu : underB 1 6 = false := rfl
  have ha := c0_6 z
  have hb := c2_6 z
  rw [hu, ucnt_app] at e
  cases h : eqb (z 17) 0 <;> rw [h] at e <;> simp only [Bool.not_true, Bool.not_false, cond_true, cond_false] at e <;> omega
theorem c1_7 (z : Nat → Int) : ucnt (resL z 1) 7 = 0 := by
  have e : ucnt (resL z 1) 7 = bif !eqb (z 17) 0 then (bif underB 1 7 then 1 else 0) else ucnt (resL z 0 ++ resL z 2) 7 := ucnt_node
  have hu : underB 1 7 = false := rfl
  have ha := c0_7 z
  have hb := c2_7 z
  rw [hu, ucnt_app] at e
  cases h : eqb (z 17) 0 <;> rw [h] at e <;> simp only [Bool.not_true, Bool.not_false, cond_true, cond_false] at e <;> omega
theorem c5_0 (z : Nat → Int) : ucnt (resL z 5) 0 = 0 := by
  have e : ucnt (resL z 5) 0 = bif !eqb (z 21) 0 then (bif underB 5 0 then 1 else 0) else ucnt (resL z 4 ++ resL z 6) 0 := ucnt_node
  have hu : underB 5 0 = false := rfl
  have ha := c4_0 z
  have hb := c6_0 z
  rw [hu, ucnt_app] at e
  cases h : eqb (z 21) 0 <;> rw [h] at e <;> simp only [Bool.not_true, Bool.not_false, cond_true, cond_false] at e <;> omega
theorem c5_1 (z : Nat → Int) : ucnt (resL z 5) 1 = 0 := by
  have e : ucnt (resL z 5) 1 = bif !eqb (z 21) 0 then (bif underB 5 1 then 1 else 0) else ucnt (resL z 4 ++ resL z 6) 1 := ucnt_node
  have hu : underB 5 1 = false := rfl
  have ha := c4_1 z
  have hb := c6_1 z
  rw [hu, ucnt_app] at e
  cases h : eqb (z 21) 0 <;> rw [h] at e <;> simp only [Bool.not_true, Bool.not_false, cond_true, cond_false] at e <;> omega
theorem c5_2 (z : Nat → Int) : ucnt (resL z 5) 2 ≤ 1 ∧ (eqb (z 5) 0 = false → ucnt (resL z 5) 2 = 1) := by
  have e : ucnt (resL z 5) 2 = bif !eqb (z 21) 0 then (bif underB 5 2 then 1 else 0) else ucnt (resL z 4 ++ resL z 6) 2 := ucnt_node
  have hu : underB 5 2 = true := rfl
  have ha := c4_2 z
  have hb := c6_2 z
  rw [hu, ucnt_app] at e
  cases h : eqb (z 21) 0 <;> rw [h] at e <;> simp only [Bool.not_true, Bool.not_false, cond_true, cond_false] at e
  · exact ⟨by omega, fun _ => e⟩
  · exact ⟨by omega, fun hz => by have h1 := ha.2 hz; omega⟩
theorem c5_3 (z : Nat → Int) : ucnt (resL z 5) 3 ≤ 1 ∧ (eqb (z 7) 0 = false → ucnt (resL z 5) 3 = 1) := by
  have e : ucnt (resL z 5) 3 = bif !eqb (z 21) 0 then (bif underB 5 3 then 1 else 0) else ucnt (resL z 4 ++ resL z 6) 3 := ucnt_node
  have hu : underB 5 3 = true := rfl
  have ha := c4_3 z
  have hb := c6_3 z
  rw [hu, ucnt_app] at e
  cases h : eqb (z 21) 0 <;> rw [h] at e <;> simp only [Bool.not_true, Bool.not_false, cond_true, cond_false] at e
  · exact ⟨by omega, fun _ => e⟩
  · exact ⟨by omega, fun hz => by have h1 := hb.2 hz; omega⟩
theorem c5_4 (z : Nat → Int) : ucnt (resL z 5) 4 = 0 := by
  have e : ucnt (resL z 5) 4 = bif !eqb (z 21) 0 then (bif underB 5 4 then 1 else 0) else ucnt (resL z 4 ++ resL z 6) 4 := ucnt_node
  have hu : underB 5 4 = false := rfl
  have ha := c4_4 z
  have hb := c6_4 z
  rw [hu, ucnt_app] at e
  cases h : eqb (z 21) 0 <;> rw [h] at e <;> simp only [Bool.not_true, Bool.not_false, cond_true, cond_false] at e <;> omega
theorem c5_5 (z : Nat → Int) : ucnt (resL z 5) 5 = 0 := by
  have e : ucnt (resL z 5) 5 = bif !eqb (z 21) 0 then (bif underB 5 5 then 1 else 0) else ucnt (resL z 4 ++ resL z 6) 5 := ucnt_node
  have hu : underB 5 5 = false := rfl
  have ha := c4_5 z
  have hb := c6_5 z
  rw [hu, ucnt_app] at e
  cases h : eqb (z 21) 0 <;> rw [h] at e <;> simp only [Bool.not_true, Bool.not_false, cond_true, cond_false] at e <;> omega
theorem c5_6 (z : Nat → Int) : ucnt (resL z 5) 6 = 0 := by
  have e : ucnt (resL z 5) 6 = bif !eqb (z 21) 0 then (bif underB 5 6 then 1 else 0) else ucnt (resL z 4 ++ resL z 6) 6 := ucnt_node
  have hu : underB 5 6 = false := rfl
  have ha := c4_6 z
  have hb := c6_6 z
  rw [hu, ucnt_app] at e
  cases h : eqb (z 21) 0 <;> rw [h] at e <;> simp only [Bool.not_true, Bool.not_false, cond_true, cond_false] at e <;> omega
theorem c5_7 (z : Nat → Int) : ucnt (resL z 5) 7 = 0 := by
  have e : ucnt (resL z 5) 7 = bif !eqb (z 21) 0 then (bif underB 5 7 then 1 else 0) else ucnt (resL z 4 ++ resL z 6) 7 := ucnt_node
  have hu : underB 5 7 = false := rfl
  have ha := c4_7 z
  have hb := c6_7 z
  rw [hu, ucnt_app] at e
  cases h : eqb (z 21) 0 <;> rw [h] at e <;> simp only [Bool.not_true, Bool.not_false, cond_true, cond_false] at e <;> omega
theorem c9_0 (z : Nat → Int) : ucnt (resL z 9) 0 = 0 := by
  have e : ucnt (resL z 9) 0 = bif !eqb (z 25) 0 then (bif underB 9 0 then 1 else 0) else ucnt (resL z 8 ++ resL z 10) 0 := ucnt_node
  have hu : underB 9 0 = false := rfl
  have ha := c8_0 z
  have hb := c10_0 z
  rw [hu, ucnt_app] at e
  cases h : eqb (z 25) 0 <;> rw [h] at e <;> simp only [Bool.not_true, Bool.not_false, cond_true, cond_false] at e <;> omega
theorem c9_1 (z : Nat → Int) : ucnt (resL z 9) 1 = 0 := by
  have e : ucnt (resL z 9) 1 = bif !eqb (z 25) 0 then (bif underB 9 1 then 1 else 0) else ucnt (resL z 8 ++ resL z 10) 1 := ucnt_node
  have hu : underB 9 1 = false := rfl
  have ha := c8_1 z
  have hb := c10_1 z
  rw [hu, ucnt_app] at e
  cases h : eqb (z 25) 0 <;> rw [h] at e <;> simp only [Bool.not_true, Bool.not_false, cond_true, cond_false] at e <;> omega
theorem c9_2 (z : Nat → Int) : ucnt (resL z 9) 2 = 0 := by
  have e : ucnt (resL z 9) 2 = bif !eqb (z 25) 0 then (bif underB 9 2 then 1 else 0) else ucnt (resL z 8 ++ resL z 10) 2 := ucnt_node
  have hu : underB 9 2 = false := rfl
  have ha := c8_2 z
  have hb := c10_2 z
  rw [hu, ucnt_app] at e
  cases h : eqb (z 25) 0 <;> rw [h] at e <;> simp only [Bool.not_true, Bool.not_false, cond_true, cond_false] at e <;> omega
theorem c9_3 (z : Nat → Int) : ucnt (resL z 9) 3 = 0 := by
  have e : ucnt (resL z 9) 3 = bif !eqb (z 25) 0 then (bif underB 9 3 then 1 else 0) else ucnt (resL z 8 ++ resL z 10) 3 := ucnt_node
  have hu : underB 9 3 = false := rfl
  have ha := c8_3 z
  have hb := c10_3 z
  rw [hu, ucnt_app] at e
  cases h : eqb (z 25) 0 <;> rw [h] at e <;> simp only [Bool.not_true, Bool.not_false, cond_true, cond_false] at e <;> omega
theorem c9_4 (z : Nat → Int) : ucnt (resL z 9) 4 ≤ 1 ∧ (eqb (z 9) 0 = false → ucnt (resL z 9) 4 = 1) := by
  have e : ucnt (resL z 9) 4 = bif !eqb (z 25) 0 then (bif underB 9 4 then 1 else 0) else ucnt (resL z 8 ++ resL z 10) 4 := ucnt_node
  have hu : underB 9 4 = true := rfl
  have ha := c8_4 z
  have hb := c10_4 z
  rw [hu, ucnt_app] at e
  cases h : eqb (z 25) 0 <;> rw [h] at e <;> simp only [Bool.not_true, Bool.not_false, cond_true, cond_false] at e
  · exact ⟨by omega, fun _ => e⟩
  · exact ⟨by omega, fun hz => by have h1 := ha.2 hz; omega⟩
theorem c9_5 (z : Nat → Int) : ucnt (resL z 9) 5 ≤ 1 ∧ (eqb (z 11) 0 = false → ucnt (resL z 9) 5 = 1) := by
  have e : ucnt (resL z 9) 5 = bif !eqb (z 25) 0 then (bif underB 9 5 then 1 else 0) else ucnt (resL z 8 ++ resL z 10) 5 := ucnt_node
  have hu : underB 9 5 = true := rfl
  have ha := c8_5 z
  have hb := c10_5 z
  rw [hu, ucnt_app] at e
  cases h : eqb (z 25) 0 <;> rw [h] at e <;> simp only [Bool.not_true, Bool.not_false, cond_true, cond_false] at e
  · exact ⟨by omega, fun _ => e⟩
  · exact ⟨by omega, fun hz => by have h1 := hb.2 hz; omega⟩
theorem c9_6 (z : Nat → Int) : ucnt (resL z 9) 6 = 0 := by
  have e : ucnt (resL z 9) 6 = bif !eqb (z 25) 0 then (bif underB 9 6 then 1 else 0) else ucnt (resL z 8 ++ resL z 10) 6 := ucnt_node
  have hu : underB 9 6 = false := rfl
  have ha := c8_6 z
  have hb := c10_6 z
  rw [hu, ucnt_app] at e
  cases h : eqb (z 25) 0 <;> rw [h] at e <;> simp only [Bool.not_true, Bool.not_false, cond_true, cond_false] at e <;> omega
theorem c9_7 (z : Nat → Int) : ucnt (resL z 9) 7 = 0 := by
  have e : ucnt (resL z 9) 7 = bif !eqb (z 25) 0 then (bif underB 9 7 then 1 else 0) else ucnt (resL z 8 ++ resL z 10) 7 := ucnt_node
  have hu : underB 9 7 = false := rfl
  have ha := c8_7 z
  have hb := c10_7 z
  rw [hu, ucnt_app] at e
  cases h : eqb (z 25) 0 <;> rw [h] at e <;> simp only [Bool.not_true, Bool.not_false, cond_true, cond_false] at e <;> omega
theorem c13_0 (z : Nat → Int) : ucnt (resL z 13) 0 = 0 := by
  have e : ucnt (resL z 13) 0 = bif !eqb (z 29) 0 then (bif underB 13 0 then 1 else 0) else ucnt (resL z 12 ++ resL z 14) 0 := ucnt_node
  have hu : underB 13 0 = false := rfl
  have ha := c12_0 z
  have hb := c14_0 z
  rw [hu, ucnt_app] at e
  cases h : eqb (z 29) 0 <;> rw [h] at e <;> simp only [Bool.not_true, Bool.not_false, cond_true, cond_false] at e <;> omega
theorem c13_1 (z : Nat → Int) : ucnt (resL z 13) 1 = 0 := by
  have e : ucnt (resL z 13) 1 = bif !eqb (z 29) 0 then (bif underB 13 1 then 1 else 0) else ucnt (resL z 12 ++ resL z 14) 1 := ucnt_node
  have hu : underB 13 1 = false := rfl
  have ha := c12_1 z
  have hb := c14_1 z
  rw [hu, ucnt_app] at e
  cases h : eqb (z 29) 0 <;> rw [h] at e <;> simp only [Bool.not_true, Bool.not_false, cond_true, cond_false] at e <;> omega
theorem c13_2 (z : Nat → Int) : ucnt (resL z 13) 2 = 0 := by
  have e : ucnt (resL z 13) 2 = bif !eqb (z 29) 0 then (bif underB 13 2 then 1 else 0) else ucnt (resL z 12 ++ resL z 14) 2 := ucnt_node
  have hu : underB 13 2 = false := rfl
  have ha := c12_2 z
  have hb := c14_2 z
  rw [hu, ucnt_app] at e
  cases h : eqb (z 29) 0 <;> rw [h] at e <;> simp only [Bool.not_true, Bool.not_false, cond_true, cond_false] at e <;> omega
theorem c13_3 (z : Nat → Int) : ucnt (resL z 13) 3 = 0 := by
  have e : ucnt (resL z 13) 3 = bif !eqb (z 29) 0 then (bif underB 13 3 then 1 else 0) else ucnt (resL z 12 ++ resL z 14) 3 := ucnt_node
  have hu : underB 13 3 = false := rfl
  have ha := c12_3 z
  have hb := c14_3 z
  rw [hu, ucnt_app] at e
  cases h : eqb (z 29) 0 <;> rw [h] at e <;> simp only [Bool.not_true, Bool.not_false, cond_true, cond_false] at e <;> omega
theorem c13_4 (z : Nat → Int) : ucnt (resL z 13) 4 = 0 := by
  have e : ucnt (resL z 13) 4 = bif !eqb (z 29) 0 then (bif underB 13 4 then 1 else 0) else ucnt (resL z 12 ++ resL z 14) 4 := ucnt_node
  have hu : underB 13 4 = false := rfl
  have ha := c12_4 z
  have hb := c14_4 z
  rw [hu, ucnt_app] at e
  cases h : eqb (z 29) 0 <;> rw [h] at e <;> simp only [Bool.not_true, Bool.not_false, cond_true, cond_false] at e <;> omega
theorem c13_5 (z : Nat → Int) : ucnt (resL z 13) 5 = 0 := by
  have e : ucnt (resL z 13) 5 = bif !eqb (z 29) 0 then (bif underB 13 5 then 1 else 0) else ucnt (resL z 12 ++ resL z 14) 5 := ucnt_node
  have hu : underB 13 5 = false := rfl
  have ha := c12_5 z
  have hb := c14_5 z
  rw [hu, ucnt_app] at e
  cases h : eqb (z 29) 0 <;> rw [h] at e <;> simp only [Bool.not_true, Bool.not_false, cond_true, cond_false] at e <;> omega
theorem c13_6 (z : Nat → Int) : ucnt (resL z 13) 6 ≤ 1 ∧ (eqb (z 13) 0 = false → ucnt (resL z 13) 6 = 1) := by
  have e : ucnt (resL z 13) 6 = bif !eqb (z 29) 0 then (bif underB 13 6 then 1 else 0) else ucnt (resL z 12 ++ resL z 14) 6 := ucnt_node
  have hu : underB 13 6 = true := rfl
  have ha := c12_6 z
  have hb := c14_6 z
  rw [hu, ucnt_app] at e
  cases h : eqb (z 29) 0 <;> rw [h] at e <;> simp only [Bool.not_true, Bool.not_false, cond_true, cond_false] at e
  · exact ⟨by omega, fun _ => e⟩
  · exact ⟨by omega, fun hz => by have h1 := ha.2 hz; omega⟩
theorem c13_7 (z : Nat → Int) : ucnt (resL z 13) 7 ≤ 1 ∧ (eqb (z 15) 0 = false → ucnt (resL z 13) 7 = 1) := by
  have e : ucnt (resL z 13) 7 = bif !eqb (z 29) 0 then (bif underB 13 7 then 1 else 0) else ucnt (resL z 12 ++ resL z 14) 7 := ucnt_node
  have hu : underB 13 7 = true := rfl
  have ha := c12_7 z
  have hb := c14_7 z
  rw [hu, ucnt_app] at e
  cases h : eqb (z 29) 0 <;> rw [h] at e <;> simp only [Bool.not_true, Bool.not_false, cond_true, cond_false] at e
  · exact ⟨by omega, fun _ => e⟩
  · exact ⟨by omega, fun hz => by have h1 := hb.2 hz; omega⟩
theorem c3_0 (z : Nat → Int) : ucnt (resL z 3) 0 ≤ 1 ∧ (eqb (z 1) 0 = false → ucnt (resL z 3) 0 = 1) := by
  have e : ucnt (resL z 3) 0 = bif !eqb (z 19) 0 then (bif underB 3 0 then 1 else 0) else ucnt (resL z 1 ++ resL z 5) 0 := ucnt_node
  have hu : underB 3 0 = true := rfl
  have ha := c1_0 z
  have hb := c5_0 z
  rw [hu, ucnt_app] at e
  cases h : eqb (z 19) 0 <;> rw [h] at e <;> simp only [Bool.not_true, Bool.not_false, cond_true, cond_false] at e
  · exact ⟨by omega, fun _ => e⟩
  · exact ⟨by omega, fun hz => by have h1 := ha.2 hz; omega⟩
theorem c3_1 (z : Nat → Int) : ucnt (resL z 3) 1 ≤ 1 ∧ (eqb (z 3) 0 = false → ucnt (resL z 3) 1 = 1) := by
  have e : ucnt (resL z 3) 1 = bif !eqb (z 19) 0 then (bif underB 3 1 then 1 else 0) else ucnt (resL z 1 ++ resL z 5) 1 := ucnt_node
  have hu : underB 3 1 = true := rfl
  have ha := c1_1 z
  have hb := c5_1 z
  rw [hu, ucnt_app] at e
  cases h : eqb (z 19) 0 <;> rw [h] at e <;> simp only [Bool.not_true, Bool.not_false, cond_true, cond_false] at e
  · exact ⟨by omega, fun _ => e⟩
  · exact ⟨by omega, fun hz => by have h1 := ha.2 hz; omega⟩
theorem c3_2 (z : Nat → Int) : ucnt (resL z 3) 2 ≤ 1 ∧ (eqb (z 5) 0 = false → ucnt (resL z 3) 2 = 1) := by
  have e : ucnt (resL z 3) 2 = bif !eqb (z 19) 0 then (bif underB 3 2 then 1 else 0) else ucnt (resL z 1 ++ resL z 5) 2 := ucnt_node
  have hu : underB 3 2 = true := rfl
  have ha := c1_2 z
  have hb := c5_2 z
  rw [hu, ucnt_app] at e
  cases h : eqb (z 19) 0 <;> rw [h] at e <;> simp only [Bool.not_true, Bool.not_false, cond_true, cond_false] at e
  · exact ⟨by omega, fun _ => e⟩
  · exact ⟨by omega, fun hz => by have h1 := hb.2 hz; omega⟩
theorem c3_3 (z : Nat → Int) : ucnt (resL z 3) 3 ≤ 1 ∧ (eqb (z 7) 0 = false → ucnt (resL z 3) 3 = 1) := by
  have e : ucnt (resL z 3) 3 = bif !eqb (z 19) 0 then (bif underB 3 3 then 1 else 0) else ucnt (resL z 1 ++ resL z 5) 3 := ucnt_node
  have hu : underB 3 3 = true := rfl
  have ha := c1_3 z
  have hb := c5_3 z
  rw [hu, ucnt_app] at e
  cases h : eqb (z 19) 0 <;> rw [h] at e <;> simp only [Bool.not_true, Bool.not_false, cond_true, cond_false] at e
  · exact ⟨by omega, fun _ => e⟩
  · exact ⟨by omega, fun hz => by have h1 := hb.2 hz; omega⟩
theorem c3_4 (z : Nat → Int) : ucnt (resL z 3) 4 = 0 := by
  have e : ucnt (resL z 3) 4 = bif !eqb (z 19) 0 then (bif underB 3 4 then 1 else 0) else ucnt (resL z 1 ++ resL z 5) 4 := ucnt_node
  have hu : underB 3 4 = false := rfl
  have ha := c1_4 z
  have hb := c5_4 z
  rw [hu, ucnt_app] at e
  cases h : eqb (z 19) 0 <;> rw [h] at e <;> simp only [Bool.not_true, Bool.not_false, cond_true, cond_false] at e <;> omega
theorem c3_5 (z : Nat → Int) : ucnt (resL z 3) 5 = 0 := by
  have e : ucnt (resL z 3) 5 = bif !eqb (z 19) 0 then (bif underB 3 5 then 1 else 0) else ucnt (resL z 1 ++ resL z 5) 5 := ucnt_node
  have hu : underB 3 5 = false := rfl
  have ha := c1_5 z
  have hb := c5_5 z
  rw [hu, ucnt_app] at e
  cases h : eqb (z 19) 0 <;> rw [h] at e <;> simp only [Bool.not_true, Bool.not_false, cond_true, cond_false] at e <;> omega
theorem c3_6 (z : Nat → Int) : ucnt (resL z 3) 6 = 0 := by
  have e : ucnt (resL z 3) 6 = bif !eqb (z 19) 0 then (bif underB 3 6 then 1 else 0) else ucnt (resL z 1 ++ resL z 5) 6 := ucnt_node
  have hu : underB 3 6 = false := rfl
  have ha := c1_6 z
  have hb := c5_6 z
  rw [hu, ucnt_app] at e
  cases h : eqb (z 19) 0 <;> rw [h] at e <;> simp only [Bool.not_true, Bool.not_false, cond_true, cond_false] at e <;> omega
theorem c3_7 (z : Nat → Int) : ucnt (resL z 3) 7 = 0 := by
  have e : ucnt (resL z 3) 7 = bif !eqb (z 19) 0 then (bif underB 3 7 then 1 else 0) else ucnt (resL z 1 ++ resL z 5) 7 := ucnt_node
  have hu : underB 3 7 = false := rfl
  have ha := c1_7 z
  have hb := c5_7 z
  rw [hu, ucnt_app] at e
  cases h : eqb (z 19) 0 <;> rw [h] at e <;> simp only [Bool.not_true, Bool.not_false, cond_true, cond_false] at e <;> omega
theorem c11_0 (z : Nat → Int) : ucnt (resL z 11) 0 = 0 := by
  have e : ucnt (resL z 11) 0 = bif !eqb (z 27) 0 then (bif underB 11 0 then 1 else 0) else ucnt (resL z 9 ++ resL z 13) 0 := ucnt_node
  have hu : underB 11 0 = false := rfl
  have ha := c9_0 z
  have hb := c13_0 z
  rw [hu, ucnt_app] at e
  cases h : eqb (z 27) 0 <;> rw [h] at e <;> simp only [Bool.not_true, Bool.not_false, cond_true, cond_false] at e <;> omega
theorem c11_1 (z : Nat → Int) : ucnt (resL z 11) 1 = 0 := by
  have e : ucnt (resL z 11) 1 = bif !eqb (z 27) 0 then (bif underB 11 1 then 1 else 0) else ucnt (resL z 9 ++ resL z 13) 1 := ucnt_node
  have hu : underB 11 1 = false := rfl
  have ha := c9_1 z
  have hb := c13_1 z
  rw [hu, ucnt_app] at e
  cases h : eqb (z 27) 0 <;> rw [h] at e <;> simp only [Bool.not_true, Bool.not_false, cond_true, cond_false] at e <;> omega
theorem c11_2 (z : Nat → Int) : ucnt (resL z 11) 2 = 0 := by
  have e : ucnt (resL z 11) 2 = bif !eqb (z 27) 0 then (bif underB 11 2 then 1 else 0) else ucnt (resL z 9 ++ resL z 13) 2 := ucnt_node
  have hu : underB 11 2 = false := rfl
  have ha := c9_2 z
  have hb := c13_2 z
  rw [hu, ucnt_app] at e
  cases h : eqb (z 27) 0 <;> rw [h] at e <;> simp only [Bool.not_true, Bool.not_false, cond_true, cond_false] at e <;> omega
theorem c11_3 (z : Nat → Int) : ucnt (resL z 11) 3 = 0 := by
  have e : ucnt (resL z 11) 3 = bif !eqb (z 27) 0 then (bif underB 11 3 then 1 else 0) else ucnt (resL z 9 ++ resL z 13) 3 := ucnt_node
  have hu : underB 11 3 = false := rfl
  have ha := c9_3 z
  have hb := c13_3 z
  rw [hu, ucnt_app] at e
  cases h : eqb (z 27) 0 <;> rw [h] at e <;> simp only [Bool.not_true, Bool.not_false, cond_true, cond_false] at e <;> omega
theorem c11_4 (z : Nat → Int) : ucnt (resL z 11) 4 ≤ 1 ∧ (eqb (z 9) 0 = false → ucnt (resL z 11) 4 = 1) := by
  have e : ucnt (resL z 11) 4 = bif !eqb (z 27) 0 then (bif underB 11 4 then 1 else 0) else ucnt (resL z 9 ++ resL z 13) 4 := ucnt_node
  have hu : underB 11 4 = true := rfl
  have ha := c9_4 z
  have hb := c13_4 z
  rw [hu, ucnt_app] at e
  cases h : eqb (z 27) 0 <;> rw [h] at e <;> simp only [Bool.not_true, Bool.not_false, cond_true, cond_false] at e
  · exact ⟨by omega, fun _ => e⟩
  · exact ⟨by omega, fun hz => by have h1 := ha.2 hz; omega⟩
theorem c11_5 (z : Nat → Int) : ucnt (resL z 11) 5 ≤ 1 ∧ (eqb (z 11) 0 = false → ucnt (resL z 11) 5 = 1) := by
  have e : ucnt (resL z 11) 5 = bif !eqb (z 27) 0 then (bif underB 11 5 then 1 else 0) else ucnt (resL z 9 ++ resL z 13) 5 := ucnt_node
  have hu : underB 11 5 = true := rfl
  have ha := c9_5 z
  have hb := c13_5 z
  rw [hu, ucnt_app] at e
  cases h : eqb (z 27) 0 <;> rw [h] at e <;> simp only [Bool.not_true, Bool.not_false, cond_true, cond_false] at e
  · exact ⟨by omega, fun _ => e⟩
  · exact ⟨by omega, fun hz => by have h1 := ha.2 hz; omega⟩
theorem c11_6 (z : Nat → Int) : ucnt (resL z 11) 6 ≤ 1 ∧ (eqb (z 13) 0 = false → ucnt (resL z 11) 6 = 1) := by
  have e : ucnt (resL z 11) 6 = bif !eqb (z 27) 0 then (bif underB 11 6 then 1 else 0) else ucnt (resL z 9 ++ resL z 13) 6 := ucnt_node
  have hu : underB 11 6 = true := rfl
  have ha := c9_6 z
  have hb := c13_6 z
  rw [hu, ucnt_app] at e
  cases h : eqb (z 27) 0 <;> rw [h] at e <;> simp only [Bool.not_true, Bool.not_false, cond_true, cond_false] at e
  · exact ⟨by omega, fun _ => e⟩
  · exact ⟨by omega, fun hz => by have h1 := hb.2 hz; omega⟩
theorem c11_7 (z : Nat → Int) : ucnt (resL z 11) 7 ≤ 1 ∧ (eqb (z 15) 0 = false → ucnt (resL z 11) 7 = 1) := by
  have e : ucnt (resL z 11) 7 = bif !eqb (z 27) 0 then (bif underB 11 7 then 1 else 0) else ucnt (resL z 9 ++ resL z 13) 7 := ucnt_node
  have hu : underB 11 7 = true := rfl
  have ha := c9_7 z
  have hb := c13_7 z
  rw [hu, ucnt_app] at e
  cases h : eqb (z 27) 0 <;> rw [h] at e <;> simp only [Bool.not_true, Bool.not_false, cond_true, cond_false] at e
  · exact ⟨by omega, fun _ => e⟩
  · exact ⟨by omega, fun hz => by have h1 := hb.2 hz; omega⟩
theorem c7_0 (z : Nat → Int) : ucnt (resL z 7) 0 ≤ 1 ∧ (eqb (z 1) 0 = false → ucnt (resL z 7) 0 = 1) := by
  have e : ucnt (resL z 7) 0 = bif !eqb (z 23) 0 then (bif underB 7 0 then 1 else 0) else ucnt (resL z 3 ++ resL z 11) 0 := ucnt_node
  have hu : underB 7 0 = true := rfl
  have ha := c3_0 z
  have hb := c11_0 z
  rw [hu, ucnt_app] at e
  cases h : eqb (z 23) 0 <;> rw [h] at e <;> simp only [Bool.not_true, Bool.not_false, cond_true, cond_false] at e
  · exact ⟨by omega, fun _ => e⟩
  · exact ⟨by omega, fun hz => by have h1 := ha.2 hz; omega⟩
theorem c7_1 (z : Nat → Int) : ucnt (resL z 7) 1 ≤ 1 ∧ (eqb (z 3) 0 = false → ucnt (resL z 7) 1 = 1) := by
  have e : ucnt (resL z 7) 1 = bif !eqb (z 23) 0 then (bif underB 7 1 then 1 else 0) else ucnt (resL z 3 ++ resL z 11) 1 := ucnt_node
  have hu : underB 7 1 = true := rfl
  have ha := c3_1 z
  have hb := c11_1 z
  rw [hu, ucnt_app] at e
  cases h : eqb (z 23) 0 <;> rw [h] at e <;> simp only [Bool.not_true, Bool.not_false, cond_true, cond_false] at e
  · exact ⟨by omega, fun _ => e⟩
  · exact ⟨by omega, fun hz => by have h1 := ha.2 hz; omega⟩
theorem c7_2 (z : Nat → Int) : ucnt (resL z 7) 2 ≤ 1 ∧ (eqb (z 5) 0 = false → ucnt (resL z 7) 2 = 1) := by
  have e : ucnt (resL z 7) 2 = bif !eqb (z 23) 0 then (bif underB 7 2 then 1 else 0) else ucnt (resL z 3 ++ resL z 11) 2 := ucnt_node
  have hu : underB 7 2 = true := rfl
  have ha := c3_2 z
  have hb := c11_2 z
  rw [hu, ucnt_app] at e
  cases h : eqb (z 23) 0 <;> rw [h] at e <;> simp only [Bool.not_true, Bool.not_false, cond_true, cond_false] at e
  · exact ⟨by omega, fun _ => e⟩
  · exact ⟨by omega, fun hz => by have h1 := ha.2 hz; omega⟩
theorem c7_3 (z : Nat → Int) : ucnt (resL z 7) 3 ≤ 1 ∧ (eqb (z 7) 0 = false → ucnt (resL z 7) 3 = 1) := by
  have e : ucnt (resL z 7) 3 = bif !eqb (z 23) 0 then (bif underB 7 3 then 1 else 0) else ucnt (resL z 3 ++ resL z 11) 3 := ucnt_node
  have hu : underB 7 3 = true := rfl
  have ha := c3_3 z
  have hb := c11_3 z
  rw [hu, ucnt_app] at e
  cases h : eqb (z 23) 0 <;> rw [h] at e <;> simp only [Bool.not_true, Bool.not_false, cond_true, cond_false] at e
  · exact ⟨by omega, fun _ => e⟩
  · exact ⟨by omega, fun hz => by have h1 := ha.2 hz; omega⟩
theorem c7_4 (z : Nat → Int) : ucnt (resL z 7) 4 ≤ 1 ∧ (eqb (z 9) 0 = false → ucnt (resL z 7) 4 = 1) := by
  have e : ucnt (resL z 7) 4 = bif !eqb (z 23) 0 then (bif underB 7 4 then 1 else 0) else ucnt (resL z 3 ++ resL z 11) 4 := ucnt_node
  have hu : underB 7 4 = true := rfl
  have ha := c3_4 z
  have hb := c11_4 z
  rw [hu, ucnt_app] at e
  cases h : eqb (z 23) 0 <;> rw [h] at e <;> simp only [Bool.not_true, Bool.not_false, cond_true, cond_false] at e
  · exact ⟨by omega, fun _ => e⟩
  · exact ⟨by omega, fun hz => by have h1 := hb.2 hz; omega⟩
theorem c7_5 (z : Nat → Int) : ucnt (resL z 7) 5 ≤ 1 ∧ (eqb (z 11) 0 = false → ucnt (resL z 7) 5 = 1) := by
  have e : ucnt (resL z 7) 5 = bif !eqb (z 23) 0 then (bif underB 7 5 then 1 else 0) else ucnt (resL z 3 ++ resL z 11) 5 := ucnt_node
  have hu : underB 7 5 = true := rfl
  have ha := c3_5 z
  have hb := c11_5 z
  rw [hu, ucnt_app] at e
  cases h : eqb (z 23) 0 <;> rw [h] at e <;> simp only [Bool.not_true, Bool.not_false, cond_true, cond_false] at e
  · exact ⟨by omega, fun _ => e⟩
  · exact ⟨by omega, fun hz => by have h1 := hb.2 hz; omega⟩
theorem c7_6 (z : Nat → Int) : ucnt (resL z 7) 6 ≤ 1 ∧ (eqb (z 13) 0 = false → ucnt (resL z 7) 6 = 1) := by
  have e : ucnt (resL z 7) 6 = bif !eqb (z 23) 0 then (bif underB 7 6 then 1 else 0) else ucnt (resL z 3 ++ resL z 11) 6 := ucnt_node
  have hu : underB 7 6 = true := rfl
  have ha := c3_6 z
  have hb := c11_6 z
  rw [hu, ucnt_app] at e
  cases h : eqb (z 23) 0 <;> rw [h] at e <;> simp only [Bool.not_true, Bool.not_false, cond_true, cond_false] at e
  · exact ⟨by omega, fun _ => e⟩
  · exact ⟨by omega, fun hz => by have h1 := hb.2 hz; omega⟩
theorem c7_7 (z : Nat → Int) : ucnt (resL z 7) 7 ≤ 1 ∧ (eqb (z 15) 0 = false → ucnt (resL z 7) 7 = 1) := by
  have e : ucnt (resL z 7) 7 = bif !eqb (z 23) 0 then (bif underB 7 7 then 1 else 0) else ucnt (resL z 3 ++ resL z 11) 7 := ucnt_node
  have hu : underB 7 7 = true := rfl
  have ha := c3_7 z
  have hb := c11_7 z
  rw [hu, ucnt_app] at e
  cases h : eqb (z 23) 0 <;> rw [h] at e <;> simp only [Bool.not_true, Bool.not_false, cond_true, cond_false] at e
  · exact ⟨by omega, fun _ => e⟩
  · exact ⟨by omega, fun hz => by have h1 := hb.2 hz; omega⟩
end Go.Proofs.Ytnklnboglijcbaa.D
