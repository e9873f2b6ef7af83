/- A tree with a key that is none may not be: the law. -/
import Derived.Test.YtnklnboglijcbaaEMay0
import Derived.Test.YtnklnboglijcbaaEMay1
import Derived.Test.YtnklnboglijcbaaEMay2
import Derived.Test.YtnklnboglijcbaaEMay3
import Derived.Test.YtnklnboglijcbaaEMay4
import Derived.Test.YtnklnboglijcbaaEMay5
import Derived.Test.YtnklnboglijcbaaEMay6
import Derived.Test.YtnklnboglijcbaaEMay7
import Derived.KernelRfl
namespace Go.Proofs.Ytnklnboglijcbaa.E
open Go Go.RowKit
set_option maxRecDepth 100000
set_option linter.unusedVariables false
theorem may_lo (m : Nat) (l : Int) : Holds (.negSucc m) l := holds_lit (by kernel_rfl)
theorem may_hi (m : Nat) (l : Int) : Holds (.ofNat (m + 8)) l := holds_lit (by kernel_rfl)
theorem may (a b : Int) : Holds a b := by
  rcases int_cases a 8 with ⟨m, rfl⟩ | ⟨i, hi, rfl⟩ | ⟨m, rfl⟩
  · exact may_lo m b
  · match i, hi with
    | 0, _ => exact may0 b
    | 1, _ => exact may1 b
    | 2, _ => exact may2 b
    | 3, _ => exact may3 b
    | 4, _ => exact may4 b
    | 5, _ => exact may5 b
    | 6, _ => exact may6 b
    | 7, _ => exact may7 b
  · exact may_hi m b
theorem TreeMay_calls (v0 v1 v2 : Value) (W : World) (base : Nat) (h0 : Value.okWide Try.prog W .any base 3 v0) (h1 : Value.okWide Try.prog W .any base 3 v1) (h2 : Value.okWide Try.prog W .any base 3 v2) : Calls Try.prog 10 #[v0, v1, v2] W (fun e W' => e = .returned (.bool true) ∧ Below W.heap.size W W') := by
  obtain ⟨a, rfl, _⟩ := open_num (k := .i64) (by kernel_rfl) h0
  obtain ⟨b, rfl, _⟩ := open_num (k := .i64) (by kernel_rfl) h1
  obtain ⟨x, rfl, _⟩ := open_num (k := .i64) (by kernel_rfl) h2
  obtain ⟨cs, hcs, h⟩ := may a b
  exact exec_law (xs := [_, _, _]) hm (tabC_ok hcs) (noLp_ok _ _) (h { env0 with e := fun _ => x }) W ⟨R.mkInt _ _ rfl, R.mkInt _ _ rfl, R.mkInt _ _ rfl, trivial⟩
end Go.Proofs.Ytnklnboglijcbaa.E
