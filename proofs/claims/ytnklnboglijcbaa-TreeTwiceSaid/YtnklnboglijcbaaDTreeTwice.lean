/- Who is put last stands there; others' leaves, and nodes not above, stay. Conditions: none beyond the statement's own. -/
import Derived.Test.YtnklnboglijcbaaProg
import Derived.Test.YtnklnboglijcbaaD13
import Derived.KernelRfl
namespace Go.Proofs.Ytnklnboglijcbaa.D
open Go Go.RowKit
set_option maxRecDepth 100000
set_option linter.unusedVariables false
theorem hm : Try.prog.follows .mixedOrders = true := by kernel_rfl
theorem known_ok : run Try.prog 200 9 14 [] = some (.sc (.bool true)) := by kernel_rfl
def tab : FuncId → List V → Option V
  | 14, [] => some (.sc (.bool true))
  | _, _ => none
theorem tab_ok : ∀ g args r, tab g args = some r → ∀ n, Spec Try.prog g args n no r n no := by
  intro g args r h n
  unfold tab at h
  split at h
  · cases h; exact run_ok hm _ _ _ _ _ known_ok n
  · cases h
noncomputable def cl : CT := orElse (pure1 tab) (pure1 (run Try.prog 200 8))
theorem cl_ok : CTOk Try.prog cl := orElse_ok (pure1_ok tab_ok) (pure1_ok (run_ok hm _ _))
/-- the arguments: a tree, a place, two leaves. -/
def argsP (z : Nat → Int) (l : Int) (x y : Nat → Int) : List V := [.agg (nums' .i64 31 z), .sc (.int .i64 l), .agg (nums' .i64 2 x), .agg (nums' .i64 2 y)]
def way : Way := [(6, false), (9, false), (12, false), (15, false), (18, false), (21, false), (24, false), (27, false), (35, false), (42, false), (49, false), (56, false), (63, false), (70, false), (77, false), (84, false), (91, false), (98, false), (105, false), (112, false), (119, false), (126, false), (133, false)]
noncomputable abbrev ev (z : Nat → Int) (l : Int) (x y : Nat → Int) : Option (V × Bool) := res (dfun Try.prog cl way noLoops 400 Try.f6 (argsP z l x y) 0 no)
/-- answers, the first one ahead. -/
def okT : List Bool → Bool → Bool
  | [], acc => acc
  | b :: l, acc => okT l (b && acc)
theorem okT_true : ∀ (l : List Bool) (acc : Bool), acc = true → (∀ b ∈ l, b = true) → okT l acc = true
  | [], acc, h, _ => h
  | b :: l, acc, h, hl => okT_true l (b && acc) (by rw [hl b (by simp), h]; rfl) fun c hc => hl c (by simp [hc])
noncomputable def sl (a b : Int) : Bool := (selfEq Try.prog 28 [.int .i64 a, .int .i64 b] != true) == false
theorem sl_true (a b : Int) : sl a b = true := by unfold sl; rw [selfEq_true (by kernel_rfl)]; rfl
def sn (a : Int) : Bool := (!eqb a a) == false
theorem sn_true (a : Int) : sn a = true := by unfold sn; rw [eqb_self]; rfl
theorem in0_ev (z x y : Nat → Int) : ev z 0 x y = some (.sc (.bool true), okT [sl (y 0) (y 1), sl (z 2) (z 3), sl (z 4) (z 5), sl (z 6) (z 7), sl (z 8) (z 9), sl (z 10) (z 11), sl (z 12) (z 13), sl (z 14) (z 15), sn (z 16), sn (z 18), sn (z 20), sn (z 21), sn (z 22), sn (z 24), sn (z 25), sn (z 26), sn (z 27), sn (z 28), sn (z 29), sn (z 30)] true) := by kernel_rfl
theorem in0_ok (z x y : Nat → Int) : ev z 0 x y = some (.sc (.bool true), true) := by
  rw [in0_ev, okT_true _ _ rfl]
  intro b hb
  simp only [List.mem_cons, List.not_mem_nil, or_false] at hb
  rcases hb with rfl | rfl | rfl | rfl | rfl | rfl | rfl | rfl | rfl | rfl | rfl | rfl | rfl | rfl | rfl | rfl | rfl | rfl | rfl | rfl <;> first | exact sl_true _ _ | exact sn_true _
theorem in1_ev (z x y : Nat → Int) : ev z 1 x y = some (.sc (.bool true), okT [sl (z 0) (z 1), sl (y 0) (y 1), sl (z 4) (z 5), sl (z 6) (z 7), sl (z 8) (z 9), sl (z 10) (z 11), sl (z 12) (z 13), sl (z 14) (z 15), sn (z 16), sn (z 18), sn (z 20), sn (z 21), sn (z 22), sn (z 24), sn (z 25), sn (z 26), sn (z 27), sn (z 28), sn (z 29), sn (z 30)] true) := by kernel_rfl
theorem in1_ok (z x y : Nat → Int) : ev z 1 x y = some (.sc (.bool true), true) := by
  rw [in1_ev, okT_true _ _ rfl]
  intro b hb
  simp only [List.mem_cons, List.not_mem_nil, or_false] at hb
  rcases hb with rfl | rfl | rfl | rfl | rfl | rfl | rfl | rfl | rfl | rfl | rfl | rfl | rfl | rfl | rfl | rfl | rfl | rfl | rfl | rfl <;> first | exact sl_true _ _ | exact sn_true _
theorem in2_ev (z x y : Nat → Int) : ev z 2 x y = some (.sc (.bool true), okT [sl (z 0) (z 1), sl (z 2) (z 3), sl (y 0) (y 1), sl (z 6) (z 7), sl (z 8) (z 9), sl (z 10) (z 11), sl (z 12) (z 13), sl (z 14) (z 15), sn (z 16), sn (z 17), sn (z 18), sn (z 20), sn (z 22), sn (z 24), sn (z 25), sn (z 26), sn (z 27), sn (z 28), sn (z 29), sn (z 30)] true) := by kernel_rfl
theorem in2_ok (z x y : Nat → Int) : ev z 2 x y = some (.sc (.bool true), true) := by
  rw [in2_ev, okT_true _ _ rfl]
  intro b hb
  simp only [List.mem_cons, List.not_mem_nil, or_false] at hb
  rcases hb with rfl | rfl | rfl | rfl | rfl | rfl | rfl | rfl | rfl | rfl | rfl | rfl | rfl | rfl | rfl | rfl | rfl | rfl | rfl | rfl <;> first | exact sl_true _ _ | exact sn_true _
theorem in3_ev (z x y : Nat → Int) : ev z 3 x y = some (.sc (.bool true), okT [sl (z 0) (z 1), sl (z 2) (z 3), sl (z 4) (z 5), sl (y 0) (y 1), sl (z 8) (z 9), sl (z 10) (z 11), sl (z 12) (z 13), sl (z 14) (z 15), sn (z 16), sn (z 17), sn (z 18), sn (z 20), sn (z 22), sn (z 24), sn (z 25), sn (z 26), sn (z 27), sn (z 28), sn (z 29), sn (z 30)] true) := by kernel_rfl
theorem in3_ok (z x y : Nat → Int) : ev z 3 x y = some (.sc (.bool true), true) := by
  rw [in3_ev, okT_true _ _ rfl]
  intro b hb
  simp only [List.mem_cons, List.not_mem_nil, or_false] at hb
  rcases hb with rfl | rfl | rfl | rfl | rfl | rfl | rfl | rfl | rfl | rfl | rfl | rfl | rfl | rfl | rfl | rfl | rfl | rfl | rfl | rfl <;> first | exact sl_true _ _ | exact sn_true _
theorem in4_ev (z x y : Nat → Int) : ev z 4 x y = some (.sc (.bool true), okT [sl (z 0) (z 1), sl (z 2) (z 3), sl (z 4) (z 5), sl (z 6) (z 7), sl (y 0) (y 1), sl (z 10) (z 11), sl (z 12) (z 13), sl (z 14) (z 15), sn (z 16), sn (z 17), sn (z 18), sn (z 19), sn (z 20), sn (z 21), sn (z 22), sn (z 24), sn (z 26), sn (z 28), sn (z 29), sn (z 30)] true) := by kernel_rfl
theorem in4_ok (z x y : Nat → Int) : ev z 4 x y = some (.sc (.bool true), true) := by
  rw [in4_ev, okT_true _ _ rfl]
  intro b hb
  simp only [List.mem_cons, List.not_mem_nil, or_false] at hb
  rcases hb with rfl | rfl | rfl | rfl | rfl | rfl | rfl | rfl | rfl | rfl | rfl | rfl | rfl | rfl | rfl | rfl | rfl | rfl | rfl | rfl <;> first | exact sl_true _ _ | exact sn_true _
theorem in5_ev (z x y : Nat → Int) : ev z 5 x y = some (.sc (.bool true), okT [sl (z 0) (z 1), sl (z 2) (z 3), sl (z 4) (z 5), sl (z 6) (z 7), sl (z 8) (z 9), sl (y 0) (y 1), sl (z 12) (z 13), sl (z 14) (z 15), sn (z 16), sn (z 17), sn (z 18), sn (z 19), sn (z 20), sn (z 21), sn (z 22), sn (z 24), sn (z 26), sn (z 28), sn (z 29), sn (z 30)] true) := by kernel_rfl
theorem in5_ok (z x y : Nat → Int) : ev z 5 x y = some (.sc (.bool true), true) := by
  rw [in5_ev, okT_true _ _ rfl]
  intro b hb
  simp only [List.mem_cons, List.not_mem_nil, or_false] at hb
  rcases hb with rfl | rfl | rfl | rfl | rfl | rfl | rfl | rfl | rfl | rfl | rfl | rfl | rfl | rfl | rfl | rfl | rfl | rfl | rfl | rfl <;> first | exact sl_true _ _ | exact sn_true _
theorem in6_ev (z x y : Nat → Int) : ev z 6 x y = some (.sc (.bool true), okT [sl (z 0) (z 1), sl (z 2) (z 3), sl (z 4) (z 5), sl (z 6) (z 7), sl (z 8) (z 9), sl (z 10) (z 11), sl (y 0) (y 1), sl (z 14) (z 15), sn (z 16), sn (z 17), sn (z 18), sn (z 19), sn (z 20), sn (z 21), sn (z 22), sn (z 24), sn (z 25), sn (z 26), sn (z 28), sn (z 30)] true) := by kernel_rfl
theorem in6_ok (z x y : Nat → Int) : ev z 6 x y = some (.sc (.bool true), true) := by
  rw [in6_ev, okT_true _ _ rfl]
  intro b hb
  simp only [List.mem_cons, List.not_mem_nil, or_false] at hb
  rcases hb with rfl | rfl | rfl | rfl | rfl | rfl | rfl | rfl | rfl | rfl | rfl | rfl | rfl | rfl | rfl | rfl | rfl | rfl | rfl | rfl <;> first | exact sl_true _ _ | exact sn_true _
theorem in7_ev (z x y : Nat → Int) : ev z 7 x y = some (.sc (.bool true), okT [sl (z 0) (z 1), sl (z 2) (z 3), sl (z 4) (z 5), sl (z 6) (z 7), sl (z 8) (z 9), sl (z 10) (z 11), sl (z 12) (z 13), sl (y 0) (y 1), sn (z 16), sn (z 17), sn (z 18), sn (z 19), sn (z 20), sn (z 21), sn (z 22), sn (z 24), sn (z 25), sn (z 26), sn (z 28), sn (z 30)] true) := by kernel_rfl
theorem in7_ok (z x y : Nat → Int) : ev z 7 x y = some (.sc (.bool true), true) := by
  rw [in7_ev, okT_true _ _ rfl]
  intro b hb
  simp only [List.mem_cons, List.not_mem_nil, or_false] at hb
  rcases hb with rfl | rfl | rfl | rfl | rfl | rfl | rfl | rfl | rfl | rfl | rfl | rfl | rfl | rfl | rfl | rfl | rfl | rfl | rfl | rfl <;> first | exact sl_true _ _ | exact sn_true _
theorem low_ok (z x y : Nat → Int) (m : Nat) : ev z (Int.negSucc m) x y = some (.sc (.bool true), true) := by kernel_rfl
theorem high_ok (z x y : Nat → Int) (m : Nat) : ev z (Int.ofNat (m + 8)) x y = some (.sc (.bool true), true) := by kernel_rfl
theorem all (z x y : Nat → Int) (l : Int) : ev z l x y = some (.sc (.bool true), true) := by
  rcases int_cases l 8 with ⟨m, rfl⟩ | ⟨i, hi, rfl⟩ | ⟨m, rfl⟩
  · exact low_ok z x y m
  · match i, hi with
    | 0, _ => exact in0_ok z x y
    | 1, _ => exact in1_ok z x y
    | 2, _ => exact in2_ok z x y
    | 3, _ => exact in3_ok z x y
    | 4, _ => exact in4_ok z x y
    | 5, _ => exact in5_ok z x y
    | 6, _ => exact in6_ok z x y
    | 7, _ => exact in7_ok z x y
  · exact high_ok z x y m
theorem TreeTwice_calls (v0 v1 v2 v3 : Value) (W : World) (base : Nat) (h0 : Value.okWide Try.prog W .any base 32 v0) (h1 : Value.okWide Try.prog W .any base 3 v1) (h2 : Value.okWide Try.prog W .any base 28 v2) (h3 : Value.okWide Try.prog W .any base 28 v3) :
    Calls Try.prog 6 #[v0, v1, v2, v3] W (fun e W' => e = .returned (.bool true) ∧ Below W.heap.size W W') := by
  obtain ⟨z, rfl, _⟩ := open_nums (N := 31) (k := .i64) (by kernel_rfl) (by kernel_rfl) (by kernel_rfl) h0
  obtain ⟨l, rfl, _⟩ := open_num Try.underlying3 h1
  obtain ⟨x, rfl, _⟩ := open_nums (N := 2) (k := .i64) (by kernel_rfl) (by kernel_rfl) (by kernel_rfl) h2
  obtain ⟨y, rfl, _⟩ := open_nums (N := 2) (k := .i64) (by kernel_rfl) (by kernel_rfl) (by kernel_rfl) h3
  obtain ⟨n', σ', i, h⟩ := res_some (all z x y l)
  exact (dfun_ok hm cl_ok (noLoops_ok _ _ _) Try.func6 (by kernel_rfl) h rfl).law (xs := [_, _, _, _]) ⟨R_nums _ _ _ _, R_int _ _ _, R_nums _ _ _ _, R_nums _ _ _ _, trivial⟩ W
end Go.Proofs.Ytnklnboglijcbaa.D
