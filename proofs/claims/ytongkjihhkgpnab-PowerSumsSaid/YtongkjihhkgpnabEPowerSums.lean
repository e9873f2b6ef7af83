/- Sums as numbers: every sum at once. -/
import Derived.Test.YtongkjihhkgpnabProg
import Derived.Test.YtongkjihhkgpnabE24
import Derived.KernelRfl
namespace Go.Proofs.Ytongkjihhkgpnab.E
open Go Go.RowKit
set_option maxRecDepth 100000
theorem hm : Try.prog.follows .mixedOrders = true := by kernel_rfl
theorem all_true : want (exec Try.prog noTab noLp 4000 40 6 [.agg (lets .u8 0 32)]) = .lit true := by kernel_rfl
theorem PowerSums_calls (v0 : Value) (W : World) (base : Nat) (h0 : Value.okWide Try.prog W .any base 27 v0) : Calls Try.prog 6 #[v0] W (fun e W' => e = .returned (.bool true) ∧ Below W.heap.size W W') := by
  obtain ⟨z, rfl, hz⟩ := open_nums (N := 32) (k := .u8) (by kernel_rfl) (by kernel_rfl) (by kernel_rfl) h0
  have h : (want (exec Try.prog noTab noLp 4000 40 6 [.agg (lets .u8 0 32)])).den { env0 with e := z } = true := by rw [all_true]; rfl
  exact exec_law (xs := [_]) hm (noTab_ok _ _) (noLp_ok _ _) h W ⟨R_lets hz fun i _ => by rw [Nat.zero_add]; rfl, trivial⟩
end Go.Proofs.Ytongkjihhkgpnab.E
