/- Commits with numbers beyond their bounds are refused: each way by itself. -/
import Derived.Test.YteoliaedohmmjaaProg
import Derived.Test.YteoliaedohmmjaaE24
import Derived.KernelRfl
namespace Go.Proofs.Yteoliaedohmmjaa.E
open Go Go.RowKit
set_option maxRecDepth 100000
theorem hm : Try.prog.follows .mixedOrders = true := by kernel_rfl
theorem known_t : shutT (exec Try.prog noTab noLp 4000 40 19 []) = .leaf (.bool (.lit true), []) := by kernel_rfl
def cons1 : List Con := [⟨19, [], .leaf (.bool (.lit true), [])⟩]
theorem cons1_ok : ∀ c ∈ cons1, ConOk Try.prog c := by
  intro c hc
  simp only [cons1, List.mem_cons, List.not_mem_nil, or_false] at hc
  subst hc
  exact Con.ofExec hm (fun ρ => noTab_ok _ ρ) (fun ρ => noLp_ok _ ρ) rfl known_t
noncomputable abbrev ev (l : Int) : B := want (exec Try.prog (tabC cons1) noLp 4000 40 5 [.int .i64 (.lit l)])
theorem odd0 : ev 0 = .lit true := by kernel_rfl
theorem odd1 : ev 1 = .lit true := by kernel_rfl
theorem odd2 : ev 2 = .lit true := by kernel_rfl
theorem odd3 : ev 3 = .lit true := by kernel_rfl
theorem odd4 : ev 4 = .lit true := by kernel_rfl
theorem odd5 : ev 5 = .lit true := by kernel_rfl
theorem odd6 : ev 6 = .lit true := by kernel_rfl
theorem odd7 : ev 7 = .lit true := by kernel_rfl
theorem odd8 : ev 8 = .lit true := by kernel_rfl
theorem odd9 : ev 9 = .lit true := by kernel_rfl
theorem odd10 : ev 10 = .lit true := by kernel_rfl
theorem odd11 : ev 11 = .lit true := by kernel_rfl
theorem low (m : Nat) : ev (.negSucc m) = .lit true := by kernel_rfl
theorem high (m : Nat) : ev (.ofNat (m + 12)) = .lit true := by kernel_rfl
theorem all (l : Int) : ev l = .lit true := by
  rcases int_cases l 12 with ⟨m, rfl⟩ | ⟨i, hi, rfl⟩ | ⟨m, rfl⟩
  · exact low m
  · match i, hi with
    | 0, _ => exact odd0
    | 1, _ => exact odd1
    | 2, _ => exact odd2
    | 3, _ => exact odd3
    | 4, _ => exact odd4
    | 5, _ => exact odd5
    | 6, _ => exact odd6
    | 7, _ => exact odd7
    | 8, _ => exact odd8
    | 9, _ => exact odd9
    | 10, _ => exact odd10
    | 11, _ => exact odd11
  · exact high m
theorem WireOdd_calls (v0 : Value) (W : World) (base : Nat) (h0 : Value.okWide Try.prog W .any base 3 v0) : Calls Try.prog 5 #[v0] W (fun e W' => e = .returned (.bool true) ∧ Below W.heap.size W W') := by
  obtain ⟨l, rfl, _⟩ := open_num (k := .i64) (by kernel_rfl) h0
  have h : (ev l).den env0 = true := by rw [all l]; rfl
  exact exec_law (xs := [_]) hm (tabC_ok cons1_ok) (noLp_ok _ _) h W ⟨R.mkInt _ _ rfl, trivial⟩
end Go.Proofs.Yteoliaedohmmjaa.E
