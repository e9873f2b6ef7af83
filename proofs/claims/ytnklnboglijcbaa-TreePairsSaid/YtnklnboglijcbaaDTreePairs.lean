/- Of two leaves the one's path is the other one's from their common node on. Conditions: none beyond the statement's own. -/
import Derived.Test.YtnklnboglijcbaaProg
import Derived.Test.YtnklnboglijcbaaD12
import Derived.KernelRfl
namespace Go.Proofs.Ytnklnboglijcbaa.D
open Go Go.RowKit
set_option maxRecDepth 100000
set_option linter.unusedVariables false
theorem hm : Try.prog.follows .mixedOrders = true := by kernel_rfl
theorem known_ok : run Try.prog 200 9 14 [] = some (.sc (.bool true)) := by kernel_rfl
def tab : FuncId → List V → Option V
  | 14, [] => some (.sc (.bool true))
  | _, _ => none
theorem tab_ok : ∀ g args r, tab g args = some r → ∀ n, Spec Try.prog g args n no r n no := by
  intro g args r h n
  unfold tab at h
  split at h
  · cases h; exact run_ok hm _ _ _ _ _ known_ok n
  · cases h
noncomputable def cl : CT := orElse (pure1 tab) (pure1 (run Try.prog 200 8))
theorem cl_ok : CTOk Try.prog cl := orElse_ok (pure1_ok tab_ok) (pure1_ok (run_ok hm _ _))
noncomputable abbrev ev (a b : Int) : Option (V × Bool) := res (dfun Try.prog cl [] noLoops 200 Try.f4 [.sc (.int .i64 a), .sc (.int .i64 b)] 0 no)
theorem from_res {a b : Int} (h : ev a b = some (.sc (.bool true), true)) (W : World) :
    Calls Try.prog 4 #[.int .i64 a, .int .i64 b] W (fun e W' => e = .returned (.bool true) ∧ Below W.heap.size W W') := by
  obtain ⟨n', σ', i, h⟩ := res_some h
  exact (dfun_ok hm cl_ok (noLoops_ok _ _ _) Try.func4 (by kernel_rfl) h rfl).law (xs := [.int .i64 a, .int .i64 b]) ⟨R_int _ _ _, R_int _ _ _, trivial⟩ W
theorem a_low (m : Nat) (b : Int) : ev (Int.negSucc m) b = some (.sc (.bool true), true) := by kernel_rfl
theorem a_high (m : Nat) (b : Int) : ev (Int.ofNat (m + 8)) b = some (.sc (.bool true), true) := by kernel_rfl
theorem b_low0 (m : Nat) : ev 0 (Int.negSucc m) = some (.sc (.bool true), true) := by kernel_rfl
theorem b_high0 (m : Nat) : ev 0 (Int.ofNat (m + 8)) = some (.sc (.bool true), true) := by kernel_rfl
theorem in00 : ev 0 0 = some (.sc (.bool true), true) := by kernel_rfl
theorem in01 : ev 0 1 = some (.sc (.bool true), true) := by kernel_rfl
theorem in02 : ev 0 2 = some (.sc (.bool true), true) := by kernel_rfl
theorem in03 : ev 0 3 = some (.sc (.bool true), true) := by kernel_rfl
theorem in04 : ev 0 4 = some (.sc (.bool true), true) := by kernel_rfl
theorem in05 : ev 0 5 = some (.sc (.bool true), true) := by kernel_rfl
theorem in06 : ev 0 6 = some (.sc (.bool true), true) := by kernel_rfl
theorem in07 : ev 0 7 = some (.sc (.bool true), true) := by kernel_rfl
theorem b_low1 (m : Nat) : ev 1 (Int.negSucc m) = some (.sc (.bool true), true) := by kernel_rfl
theorem b_high1 (m : Nat) : ev 1 (Int.ofNat (m + 8)) = some (.sc (.bool true), true) := by kernel_rfl
theorem in10 : ev 1 0 = some (.sc (.bool true), true) := by kernel_rfl
theorem in11 : ev 1 1 = some (.sc (.bool true), true) := by kernel_rfl
theorem in12 : ev 1 2 = some (.sc (.bool true), true) := by kernel_rfl
theorem in13 : ev 1 3 = some (.sc (.bool true), true) := by kernel_rfl
theorem in14 : ev 1 4 = some (.sc (.bool true), true) := by kernel_rfl
theorem in15 : ev 1 5 = some (.sc (.bool true), true) := by kernel_rfl
theorem in16 : ev 1 6 = some (.sc (.bool true), true) := by kernel_rfl
theorem in17 : ev 1 7 = some (.sc (.bool true), true) := by kernel_rfl
theorem b_low2 (m : Nat) : ev 2 (Int.negSucc m) = some (.sc (.bool true), true) := by kernel_rfl
theorem b_high2 (m : Nat) : ev 2 (Int.ofNat (m + 8)) = some (.sc (.bool true), true) := by kernel_rfl
theorem in20 : ev 2 0 = some (.sc (.bool true), true) := by kernel_rfl
theorem in21 : ev 2 1 = some (.sc (.bool true), true) := by kernel_rfl
theorem in22 : ev 2 2 = some (.sc (.bool true), true) := by kernel_rfl
theorem in23 : ev 2 3 = some (.sc (.bool true), true) := by kernel_rfl
theorem in24 : ev 2 4 = some (.sc (.bool true), true) := by kernel_rfl
theorem in25 : ev 2 5 = some (.sc (.bool true), true) := by kernel_rfl
theorem in26 : ev 2 6 = some (.sc (.bool true), true) := by kernel_rfl
theorem in27 : ev 2 7 = some (.sc (.bool true), true) := by kernel_rfl
theorem b_low3 (m : Nat) : ev 3 (Int.negSucc m) = some (.sc (.bool true), true) := by kernel_rfl
theorem b_high3 (m : Nat) : ev 3 (Int.ofNat (m + 8)) = some (.sc (.bool true), true) := by kernel_rfl
theorem in30 : ev 3 0 = some (.sc (.bool true), true) := by kernel_rfl
theorem in31 : ev 3 1 = some (.sc (.bool true), true) := by kernel_rfl
theorem in32 : ev 3 2 = some (.sc (.bool true), true) := by kernel_rfl
theorem in33 : ev 3 3 = some (.sc (.bool true), true) := by kernel_rfl
theorem in34 : ev 3 4 = some (.sc (.bool true), true) := by kernel_rfl
theorem in35 : ev 3 5 = some (.sc (.bool true), true) := by kernel_rfl
theorem in36 : ev 3 6 = some (.sc (.bool true), true) := by kernel_rfl
theorem in37 : ev 3 7 = some (.sc (.bool true), true) := by kernel_rfl
theorem b_low4 (m : Nat) : ev 4 (Int.negSucc m) = some (.sc (.bool true), true) := by kernel_rfl
theorem b_high4 (m : Nat) : ev 4 (Int.ofNat (m + 8)) = some (.sc (.bool true), true) := by kernel_rfl
theorem in40 : ev 4 0 = some (.sc (.bool true), true) := by kernel_rfl
theorem in41 : ev 4 1 = some (.sc (.bool true), true) := by kernel_rfl
theorem in42 : ev 4 2 = some (.sc (.bool true), true) := by kernel_rfl
theorem in43 : ev 4 3 = some (.sc (.bool true), true) := by kernel_rfl
theorem in44 : ev 4 4 = some (.sc (.bool true), true) := by kernel_rfl
theorem in45 : ev 4 5 = some (.sc (.bool true), true) := by kernel_rfl
theorem in46 : ev 4 6 = some (.sc (.bool true), true) := by kernel_rfl
theorem in47 : ev 4 7 = some (.sc (.bool true), true) := by kernel_rfl
theorem b_low5 (m : Nat) : ev 5 (Int.negSucc m) = some (.sc (.bool true), true) := by kernel_rfl
theorem b_high5 (m : Nat) : ev 5 (Int.ofNat (m + 8)) = some (.sc (.bool true), true) := by kernel_rfl
theorem in50 : ev 5 0 = some (.sc (.bool true), true) := by kernel_rfl
theorem in51 : ev 5 1 = some (.sc (.bool true), true) := by kernel_rfl
theorem in52 : ev 5 2 = some (.sc (.bool true), true) := by kernel_rfl
theorem in53 : ev 5 3 = some (.sc (.bool true), true) := by kernel_rfl
theorem in54 : ev 5 4 = some (.sc (.bool true), true) := by kernel_rfl
theorem in55 : ev 5 5 = some (.sc (.bool true), true) := by kernel_rfl
theorem in56 : ev 5 6 = some (.sc (.bool true), true) := by kernel_rfl
theorem in57 : ev 5 7 = some (.sc (.bool true), true) := by kernel_rfl
theorem b_low6 (m : Nat) : ev 6 (Int.negSucc m) = some (.sc (.bool true), true) := by kernel_rfl
theorem b_high6 (m : Nat) : ev 6 (Int.ofNat (m + 8)) = some (.sc (.bool true), true) := by kernel_rfl
theorem in60 : ev 6 0 = some (.sc (.bool true), true) := by kernel_rfl
theorem in61 : ev 6 1 = some (.sc (.bool true), true) := by kernel_rfl
theorem in62 : ev 6 2 = some (.sc (.bool true), true) := by kernel_rfl
theorem in63 : ev 6 3 = some (.sc (.bool true), true) := by kernel_rfl
theorem in64 : ev 6 4 = some (.sc (.bool true), true) := by kernel_rfl
theorem in65 : ev 6 5 = some (.sc (.bool true), true) := by kernel_rfl
theorem in66 : ev 6 6 = some (.sc (.bool true), true) := by kernel_rfl
theorem in67 : ev 6 7 = some (.sc (.bool true), true) := by kernel_rfl
theorem b_low7 (m : Nat) : ev 7 (Int.negSucc m) = some (.sc (.bool true), true) := by kernel_rfl
theorem b_high7 (m : Nat) : ev 7 (Int.ofNat (m + 8)) = some (.sc (.bool true), true) := by kernel_rfl
theorem in70 : ev 7 0 = some (.sc (.bool true), true) := by kernel_rfl
theorem in71 : ev 7 1 = some (.sc (.bool true), true) := by kernel_rfl
theorem in72 : ev 7 2 = some (.sc (.bool true), true) := by kernel_rfl
theorem in73 : ev 7 3 = some (.sc (.bool true), true) := by kernel_rfl
theorem in74 : ev 7 4 = some (.sc (.bool true), true) := by kernel_rfl
theorem in75 : ev 7 5 = some (.sc (.bool true), true) := by kernel_rfl
theorem in76 : ev 7 6 = some (.sc (.bool true), true) := by kernel_rfl
theorem in77 : ev 7 7 = some (.sc (.bool true), true) := by kernel_rfl
theorem all (a b : Int) : ev a b = some (.sc (.bool true), true) := by
  rcases int_cases a 8 with ⟨m, rfl⟩ | ⟨i, hi, rfl⟩ | ⟨m, rfl⟩
  · exact a_low m b
  · rcases int_cases b 8 with ⟨m, rfl⟩ | ⟨j, hj, rfl⟩ | ⟨m, rfl⟩
    · match i, hi with
      | 0, _ => exact b_low0 m
      | 1, _ => exact b_low1 m
      | 2, _ => exact b_low2 m
      | 3, _ => exact b_low3 m
      | 4, _ => exact b_low4 m
      | 5, _ => exact b_low5 m
      | 6, _ => exact b_low6 m
      | 7, _ => exact b_low7 m
    · match i, hi, j, hj with
      | 0, _, 0, _ => exact in00
      | 0, _, 1, _ => exact in01
      | 0, _, 2, _ => exact in02
      | 0, _, 3, _ => exact in03
      | 0, _, 4, _ => exact in04
      | 0, _, 5, _ => exact in05
      | 0, _, 6, _ => exact in06
      | 0, _, 7, _ => exact in07
      | 1, _, 0, _ => exact in10
      | 1, _, 1, _ => exact in11
      | 1, _, 2, _ => exact in12
      | 1, _, 3, _ => exact in13
      | 1, _, 4, _ => exact in14
      | 1, _, 5, _ => exact in15
      | 1, _, 6, _ => exact in16
      | 1, _, 7, _ => exact in17
      | 2, _, 0, _ => exact in20
      | 2, _, 1, _ => exact in21
      | 2, _, 2, _ => exact in22
      | 2, _, 3, _ => exact in23
      | 2, _, 4, _ => exact in24
      | 2, _, 5, _ => exact in25
      | 2, _, 6, _ => exact in26
      | 2, _, 7, _ => exact in27
      | 3, _, 0, _ => exact in30
      | 3, _, 1, _ => exact in31
      | 3, _, 2, _ => exact in32
      | 3, _, 3, _ => exact in33
      | 3, _, 4, _ => exact in34
      | 3, _, 5, _ => exact in35
      | 3, _, 6, _ => exact in36
      | 3, _, 7, _ => exact in37
      | 4, _, 0, _ => exact in40
      | 4, _, 1, _ => exact in41
      | 4, _, 2, _ => exact in42
      | 4, _, 3, _ => exact in43
      | 4, _, 4, _ => exact in44
      | 4, _, 5, _ => exact in45
      | 4, _, 6, _ => exact in46
      | 4, _, 7, _ => exact in47
      | 5, _, 0, _ => exact in50
      | 5, _, 1, _ => exact in51
      | 5, _, 2, _ => exact in52
      | 5, _, 3, _ => exact in53
      | 5, _, 4, _ => exact in54
      | 5, _, 5, _ => exact in55
      | 5, _, 6, _ => exact in56
      | 5, _, 7, _ => exact in57
      | 6, _, 0, _ => exact in60
      | 6, _, 1, _ => exact in61
      | 6, _, 2, _ => exact in62
      | 6, _, 3, _ => exact in63
      | 6, _, 4, _ => exact in64
      | 6, _, 5, _ => exact in65
      | 6, _, 6, _ => exact in66
      | 6, _, 7, _ => exact in67
      | 7, _, 0, _ => exact in70
      | 7, _, 1, _ => exact in71
      | 7, _, 2, _ => exact in72
      | 7, _, 3, _ => exact in73
      | 7, _, 4, _ => exact in74
      | 7, _, 5, _ => exact in75
      | 7, _, 6, _ => exact in76
      | 7, _, 7, _ => exact in77
    · match i, hi with
      | 0, _ => exact b_high0 m
      | 1, _ => exact b_high1 m
      | 2, _ => exact b_high2 m
      | 3, _ => exact b_high3 m
      | 4, _ => exact b_high4 m
      | 5, _ => exact b_high5 m
      | 6, _ => exact b_high6 m
      | 7, _ => exact b_high7 m
  · exact a_high m b
theorem TreePairs_calls (a b : Int) (W : World) (_ : (Lit.int .i64 a).wf = true) (_ : (Lit.int .i64 b).wf = true) :
    Calls Try.prog 4 #[.int .i64 a, .int .i64 b] W (fun e W' => e = .returned (.bool true) ∧ Below W.heap.size W W') := from_res (all a b) W
end Go.Proofs.Ytnklnboglijcbaa.D
