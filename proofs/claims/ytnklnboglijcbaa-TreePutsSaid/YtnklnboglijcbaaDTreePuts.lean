/- Any leaf, put: the tree that comes of it is the reference's. Conditions: none beyond the statement's own. -/
import Derived.Test.YtnklnboglijcbaaProg
import Derived.Test.YtnklnboglijcbaaD13
import Derived.KernelRfl
namespace Go.Proofs.Ytnklnboglijcbaa.D
open Go Go.RowKit
set_option maxRecDepth 100000
set_option linter.unusedVariables false
theorem hm : Try.prog.follows .mixedOrders = true := by kernel_rfl
theorem known_ok : run Try.prog 200 9 14 [] = some (.sc (.bool true)) := by kernel_rfl
def tab : FuncId → List V → Option V
  | 14, [] => some (.sc (.bool true))
  | _, _ => none
theorem tab_ok : ∀ g args r, tab g args = some r → ∀ n, Spec Try.prog g args n no r n no := by
  intro g args r h n
  unfold tab at h
  split at h
  · cases h; exact run_ok hm _ _ _ _ _ known_ok n
  · cases h
noncomputable def cl : CT := orElse (pure1 tab) (pure1 (run Try.prog 200 8))
theorem cl_ok : CTOk Try.prog cl := orElse_ok (pure1_ok tab_ok) (pure1_ok (run_ok hm _ _))
/-- the arguments: a tree, a place, a leaf. -/
def argsP (z : Nat → Int) (l : Int) (x : Nat → Int) : List V := [.agg (nums' .i64 31 z), .sc (.int .i64 l), .agg (nums' .i64 2 x)]
noncomputable abbrev ev (z : Nat → Int) (l : Int) (x : Nat → Int) : Option (V × Bool) := res (dfun Try.prog cl [(0, true), (1, true)] noLoops 200 Try.f5 (argsP z l x) 0 no)
/-- the tree that is put. -/
noncomputable def made (z : Nat → Int) (l : Int) (x : Nat → Int) : List Value := match run Try.prog 200 3 16 (argsP z l x) with
  | some (.agg cs) => (cs.mapM V.flat).getD []
  | _ => []
noncomputable def fine (z : Nat → Int) (l : Int) (x : Nat → Int) : Bool := ((selfEq Try.prog 32 (made z l x) != false) == true) && (((selfEq Try.prog 32 (made z l x) != false) == true) && true)
theorem in0_ev (z x : Nat → Int) : ev z 0 x = some (.sc (.bool true), fine z 0 x) := by kernel_rfl
theorem in0_is (z x : Nat → Int) : (eqT Try.prog 100 32 (made z 0 x) (made z 0 x)).isSome = true := by kernel_rfl
theorem in0_ok (z x : Nat → Int) : ev z 0 x = some (.sc (.bool true), true) := by rw [in0_ev, fine, selfEq_true (in0_is z x)]; rfl
theorem in1_ev (z x : Nat → Int) : ev z 1 x = some (.sc (.bool true), fine z 1 x) := by kernel_rfl
theorem in1_is (z x : Nat → Int) : (eqT Try.prog 100 32 (made z 1 x) (made z 1 x)).isSome = true := by kernel_rfl
theorem in1_ok (z x : Nat → Int) : ev z 1 x = some (.sc (.bool true), true) := by rw [in1_ev, fine, selfEq_true (in1_is z x)]; rfl
theorem in2_ev (z x : Nat → Int) : ev z 2 x = some (.sc (.bool true), fine z 2 x) := by kernel_rfl
theorem in2_is (z x : Nat → Int) : (eqT Try.prog 100 32 (made z 2 x) (made z 2 x)).isSome = true := by kernel_rfl
theorem in2_ok (z x : Nat → Int) : ev z 2 x = some (.sc (.bool true), true) := by rw [in2_ev, fine, selfEq_true (in2_is z x)]; rfl
theorem in3_ev (z x : Nat → Int) : ev z 3 x = some (.sc (.bool true), fine z 3 x) := by kernel_rfl
theorem in3_is (z x : Nat → Int) : (eqT Try.prog 100 32 (made z 3 x) (made z 3 x)).isSome = true := by kernel_rfl
theorem in3_ok (z x : Nat → Int) : ev z 3 x = some (.sc (.bool true), true) := by rw [in3_ev, fine, selfEq_true (in3_is z x)]; rfl
theorem in4_ev (z x : Nat → Int) : ev z 4 x = some (.sc (.bool true), fine z 4 x) := by kernel_rfl
theorem in4_is (z x : Nat → Int) : (eqT Try.prog 100 32 (made z 4 x) (made z 4 x)).isSome = true := by kernel_rfl
theorem in4_ok (z x : Nat → Int) : ev z 4 x = some (.sc (.bool true), true) := by rw [in4_ev, fine, selfEq_true (in4_is z x)]; rfl
theorem in5_ev (z x : Nat → Int) : ev z 5 x = some (.sc (.bool true), fine z 5 x) := by kernel_rfl
theorem in5_is (z x : Nat → Int) : (eqT Try.prog 100 32 (made z 5 x) (made z 5 x)).isSome = true := by kernel_rfl
theorem in5_ok (z x : Nat → Int) : ev z 5 x = some (.sc (.bool true), true) := by rw [in5_ev, fine, selfEq_true (in5_is z x)]; rfl
theorem in6_ev (z x : Nat → Int) : ev z 6 x = some (.sc (.bool true), fine z 6 x) := by kernel_rfl
theorem in6_is (z x : Nat → Int) : (eqT Try.prog 100 32 (made z 6 x) (made z 6 x)).isSome = true := by kernel_rfl
theorem in6_ok (z x : Nat → Int) : ev z 6 x = some (.sc (.bool true), true) := by rw [in6_ev, fine, selfEq_true (in6_is z x)]; rfl
theorem in7_ev (z x : Nat → Int) : ev z 7 x = some (.sc (.bool true), fine z 7 x) := by kernel_rfl
theorem in7_is (z x : Nat → Int) : (eqT Try.prog 100 32 (made z 7 x) (made z 7 x)).isSome = true := by kernel_rfl
theorem in7_ok (z x : Nat → Int) : ev z 7 x = some (.sc (.bool true), true) := by rw [in7_ev, fine, selfEq_true (in7_is z x)]; rfl
theorem low_ev (z x : Nat → Int) (m : Nat) : ev z (Int.negSucc m) x = some (.sc (.bool true), fine z (Int.negSucc m) x) := by kernel_rfl
theorem low_is (z x : Nat → Int) (m : Nat) : (eqT Try.prog 100 32 (made z (Int.negSucc m) x) (made z (Int.negSucc m) x)).isSome = true := by kernel_rfl
theorem low_ok (z x : Nat → Int) (m : Nat) : ev z (Int.negSucc m) x = some (.sc (.bool true), true) := by rw [low_ev, fine, selfEq_true (low_is z x m)]; rfl
theorem high_ev (z x : Nat → Int) (m : Nat) : ev z (Int.ofNat (m + 8)) x = some (.sc (.bool true), fine z (Int.ofNat (m + 8)) x) := by kernel_rfl
theorem high_is (z x : Nat → Int) (m : Nat) : (eqT Try.prog 100 32 (made z (Int.ofNat (m + 8)) x) (made z (Int.ofNat (m + 8)) x)).isSome = true := by kernel_rfl
theorem high_ok (z x : Nat → Int) (m : Nat) : ev z (Int.ofNat (m + 8)) x = some (.sc (.bool true), true) := by rw [high_ev, fine, selfEq_true (high_is z x m)]; rfl
theorem all (z x : Nat → Int) (l : Int) : ev z l x = some (.sc (.bool true), true) := by
  rcases int_cases l 8 with ⟨m, rfl⟩ | ⟨i, hi, rfl⟩ | ⟨m, rfl⟩
  · exact low_ok z x m
  · match i, hi with
    | 0, _ => exact in0_ok z x
    | 1, _ => exact in1_ok z x
    | 2, _ => exact in2_ok z x
    | 3, _ => exact in3_ok z x
    | 4, _ => exact in4_ok z x
    | 5, _ => exact in5_ok z x
    | 6, _ => exact in6_ok z x
    | 7, _ => exact in7_ok z x
  · exact high_ok z x m
theorem TreePuts_calls (v0 v1 v2 : Value) (W : World) (base : Nat) (h0 : Value.okWide Try.prog W .any base 32 v0) (h1 : Value.okWide Try.prog W .any base 3 v1) (h2 : Value.okWide Try.prog W .any base 28 v2) :
    Calls Try.prog 5 #[v0, v1, v2] W (fun e W' => e = .returned (.bool true) ∧ Below W.heap.size W W') := by
  obtain ⟨z, rfl, _⟩ := open_nums (N := 31) (k := .i64) (by kernel_rfl) (by kernel_rfl) (by kernel_rfl) h0
  obtain ⟨l, rfl, _⟩ := open_num Try.underlying3 h1
  obtain ⟨x, rfl, _⟩ := open_nums (N := 2) (k := .i64) (by kernel_rfl) (by kernel_rfl) (by kernel_rfl) h2
  obtain ⟨n', σ', i, h⟩ := res_some (all z x l)
  exact (dfun_ok hm cl_ok (noLoops_ok _ _ _) Try.func5 (by kernel_rfl) h rfl).law (xs := [_, _, _]) ⟨R_nums _ _ _ _, R_int _ _ _, R_nums _ _ _ _, trivial⟩ W
end Go.Proofs.Ytnklnboglijcbaa.D
