/- Each member below a node is under just one node of those by which it is reached. Conditions: none beyond the statement's own. -/
import Derived.Test.YtnklnboglijcbaaDUnder
namespace Go.Proofs.Ytnklnboglijcbaa.D
open Go Go.RowKit
set_option maxRecDepth 100000
set_option linter.unusedVariables false
def allN : List Nat := [0, 1, 2, 3, 4, 5, 6, 7, 8, 9, 10, 11, 12, 13, 14]
theorem allN_lt {j : Nat} (h : allN.contains j = true) : j < 15 := by
  simp [allN] at h; omega
noncomputable def cO (nils : List Nat) : CT := orElse (resT 20 allN nils) (orElse undT cl0)
theorem cO_ok (nils : List Nat) : CTOk Try.prog (cO nils) := orElse_ok (resT_ok fun j h z => res20 j (allN_lt h) z) (orElse_ok undT_ok cl0_ok)
noncomputable def b8 : Code := bodyOf Try.f8
noncomputable def out8 : Code := sq2 (sq2 b8)
noncomputable def o8 : Code := ofLoop (ofBlock (sq2 (sq1 (sq2 out8))))
noncomputable def in8 : Code := ofBlock (sq1 (sq2 o8))
noncomputable def l8 : Code := ofLoop (ofBlock (sq2 (sq1 (sq2 in8))))
theorem b8_eq : b8 = .seq (sq1 b8) (.seq (sq1 (sq2 b8)) (.seq (sq1 out8) (.seq (.seq (sq1 (sq1 (sq2 out8))) (.block 0 (.loop o8))) (sq2 (sq2 out8))))) := by kernel_rfl
theorem o8_eq : o8 = .seq (sq1 o8) (.seq (.block 1 (.seq (sq1 in8) (.seq (.seq (sq1 (sq1 (sq2 in8))) (.block 2 (.loop l8))) (sq2 (sq2 in8))))) (sq2 (sq2 o8))) := by kernel_rfl
section
variable (z : Nat → Int) (v : Int) (L : List Int)
/-- what comes back of a row. -/
def rv : List Int → V
  | [] => nilV
  | x :: l => .sl 1 0 (x :: l).length 1 true none
def s8 (L : List Int) : List (Nat × Ob) := (0, ⟨.any (nums' .i64 31 z), true, 32⟩) :: match L with
  | [] => []
  | x :: l => [(1, ⟨.ints .i64 (x :: l), true, 3⟩)]
def s8' : List (Nat × Ob) := [(0, ⟨.any (nums' .i64 31 z), true, 32⟩), (1, ⟨.ints .i64 L, true, 3⟩)]
def fi8 (i c k : Nat) : List (Nat × V) := [(1, .sc (.int .i64 v)), (2, .ptr 0 0), (5, .sl 1 0 L.length 1 true none), (6, .sc (.int .i64 (Int.ofNat i))), (7, .sc (.int .i64 (Int.ofNat c))), (8, .sc (.int .i64 (Int.ofNat k)))]
def fe8 (r : V) (i c : Nat) : List (Nat × V) := [(1, .sc (.int .i64 v)), (2, .ptr 0 0), (5, r), (6, .sc (.int .i64 (Int.ofNat i))), (7, .sc (.int .i64 (Int.ofNat c)))]
def fo8 (r : V) (i : Nat) : List (Nat × V) := [(1, .sc (.int .i64 v)), (2, .ptr 0 0), (5, r), (6, .sc (.int .i64 (Int.ofNat i)))]
noncomputable def ev8 (φ : Way) (nils : List Nat) (n : Nat) (c : Code) (fl : List (Nat × V)) (sl : List (Nat × Ob)) : Option (Out × St) := dcode Try.prog (cO nils) φ noLoops 68 400 c ⟨frL' fl, n, stL sl, 0, true⟩
theorem tc8 {φ : Way} {nils : List Nat} {n n' : Nat} {c : Code} {fl gl : List (Nat × V)} {sl tl : List (Nat × Ob)} {o : Out} (h : oOut (ev8 φ nils n c fl sl) = some o) (hok : (oSt (ev8 φ nils n c fl sl)).ok = true) (hf : frHas (oSt (ev8 φ nils n c fl sl)).fr gl) (hn : Nat.ble (oSt (ev8 φ nils n c fl sl)).n n' = true) (hs : stHas (oSt (ev8 φ nils n c fl sl)).σ tl) :
    TC Try.prog 68 c (frL' fl) n (stL sl) o (frL' gl) n' (stL tl) :=
  run_tc hm (cO_ok nils) φ (noLoops_ok _ _ _) 400 fl sl gl tl h hok hf (Nat.le_of_ble_eq_true hn) hs
/-! the inner loop -/
theorem stop8 (i c k : Nat) (hk : L.length ≤ k) : TC Try.prog 68 l8 (frL' (fi8 v L i c k)) 2 (stL (s8' z L)) (.exit 2) (frL' (fe8 v (.sl 1 0 L.length 1 true none) i c)) 2 (stL (s8' z L)) := by
  have h : (oSt (ev8 [(0, false)] [] 2 l8 (fi8 v L i c k) (s8' z L))).ok = okT [Nat.blt k L.length == false] true := by kernel_rfl
  exact tc8 (φ := [(0, false)]) (nils := []) (by kernel_rfl) (h.trans (by rw [blt_no hk]; rfl)) ⟨by kernel_rfl, by kernel_rfl, by kernel_rfl, by kernel_rfl, by kernel_rfl, trivial⟩ (by kernel_rfl) ⟨by kernel_rfl, by kernel_rfl, trivial⟩
theorem wrap1 {k : Nat} (hk : k < 4294967296) : IntKind.wrap .i64 (Int.ofNat k + 1) = Int.ofNat (k + 1) := by
  rw [IntKind.wrap_i64]
  simp only [Int.ofNat_eq_natCast]
  omega
theorem step8 (i c k : Nat) (hi : i < 8) (hk : k < L.length) (hL : L.length < 4294967296) (hc : c < 4294967296) : TC Try.prog 68 l8 (frL' (fi8 v L i c k)) 2 (stL (s8' z L)) .normal (frL' (fi8 v L i ((bif underB (L.getD k 0) i then 1 else 0) + c) (k + 1))) 2 (stL (s8' z L)) := by
  have hk' : k < 4294967296 := by omega
  have e0 : L.getD (0 + k * 1) 0 = L.getD k 0 := by rw [Nat.zero_add, Nat.mul_one]
  cases hu : underB (L.getD k 0) i with
  | true =>
    have h : (oSt (ev8 [(0, true), (1, true)] [] 2 l8 (fi8 v L i c k) (s8' z L))).ok = okT [Nat.blt k L.length == true, Nat.blt k L.length, Nat.blt (0 + k * 1) L.length, Nat.blt i 8, underB (L.getD (0 + k * 1) 0) i == true] true := by kernel_rfl
    have h7 : (oSt (ev8 [(0, true), (1, true)] [] 2 l8 (fi8 v L i c k) (s8' z L))).fr 7 = .sc (.int .i64 (IntKind.wrap .i64 (Int.ofNat c + 1))) := by kernel_rfl
    have h8 : (oSt (ev8 [(0, true), (1, true)] [] 2 l8 (fi8 v L i c k) (s8' z L))).fr 8 = .sc (.int .i64 (IntKind.wrap .i64 (Int.ofNat k + 1))) := by kernel_rfl
    rw [wrap1 hk'] at h8
    rw [wrap1 hc, Nat.add_comm] at h7
    exact tc8 (φ := [(0, true), (1, true)]) (nils := []) (by kernel_rfl) (h.trans (okT_true _ _ rfl (by rw [e0, hu]; simp [blt_ok hi, blt_ok hk]))) ⟨by kernel_rfl, by kernel_rfl, by kernel_rfl, by kernel_rfl, h7, h8, trivial⟩ (by kernel_rfl) ⟨by kernel_rfl, by kernel_rfl, trivial⟩
  | false =>
    have h : (oSt (ev8 [(0, true), (1, false)] [] 2 l8 (fi8 v L i c k) (s8' z L))).ok = okT [Nat.blt k L.length == true, Nat.blt k L.length, Nat.blt (0 + k * 1) L.length, Nat.blt i 8, underB (L.getD (0 + k * 1) 0) i == false] true := by kernel_rfl
    have h8 : (oSt (ev8 [(0, true), (1, false)] [] 2 l8 (fi8 v L i c k) (s8' z L))).fr 8 = .sc (.int .i64 (IntKind.wrap .i64 (Int.ofNat k + 1))) := by kernel_rfl
    rw [wrap1 hk'] at h8
    have e7 : (bif false then 1 else 0) + c = c := Nat.zero_add c
    rw [e7]
    exact tc8 (φ := [(0, true), (1, false)]) (nils := []) (by kernel_rfl) (h.trans (okT_true _ _ rfl (by rw [e0, hu]; simp [blt_ok hi, blt_ok hk]))) ⟨by kernel_rfl, by kernel_rfl, by kernel_rfl, by kernel_rfl, by kernel_rfl, h8, trivial⟩ (by kernel_rfl) ⟨by kernel_rfl, by kernel_rfl, trivial⟩
theorem loop8 (i : Nat) (hi : i < 8) (hL : L.length < 65536) : ∀ (d c k : Nat), k + d = L.length → c ≤ k → TR Try.prog 68 l8 (d + 1) (frL' (fi8 v L i c k)) 2 (stL (s8' z L)) (.exit 2) (frL' (fe8 v (.sl 1 0 L.length 1 true none) i (c + ucnt (L.drop k) i))) 2 (stL (s8' z L))
  | 0, c, k, h, hc => by
    have e : L.drop k = [] := List.drop_eq_nil_iff.2 (by omega)
    rw [e]
    exact TR.out (stop8 z v L i c k (by omega)) (by simp)
  | d + 1, c, k, h, hc => by
    have hk : k < L.length := by omega
    rw [ucnt_drop L k i hk, ← Nat.add_assoc, Nat.add_comm c]
    exact TR.more (step8 z v L i c k hi hk (by omega) (by omega)) (loop8 i hi hL d _ (k + 1) (by omega) (by cases underB (L.getD k 0) i <;> simp <;> omega))

def s0' : List (Nat × Ob) := [(0, ⟨.any (nums' .i64 31 z), true, 32⟩)]
end
theorem slA0 (z : Nat → Int) (v : Int) (L : List Int) : TC Try.prog 68 (sq1 o8) (frL' (fo8 v (.sl 1 0 L.length 1 true none) 0)) 2 (stL (s8' z L)) .normal (frL' (fo8 v (.sl 1 0 L.length 1 true none) 0)) 2 (stL (s8' z L)) := tc8 (φ := []) (nils := []) (by kernel_rfl) (by kernel_rfl) ⟨by kernel_rfl, by kernel_rfl, by kernel_rfl, by kernel_rfl, trivial⟩ (by kernel_rfl) ⟨by kernel_rfl, by kernel_rfl, trivial⟩
theorem slB0 (z : Nat → Int) (v : Int) (L : List Int) : TC Try.prog 68 (sq1 in8) (frL' (fo8 v (.sl 1 0 L.length 1 true none) 0)) 2 (stL (s8' z L)) .normal (frL' (fe8 v (.sl 1 0 L.length 1 true none) 0 0)) 2 (stL (s8' z L)) := tc8 (φ := []) (nils := []) (by kernel_rfl) (by kernel_rfl) ⟨by kernel_rfl, by kernel_rfl, by kernel_rfl, by kernel_rfl, by kernel_rfl, trivial⟩ (by kernel_rfl) ⟨by kernel_rfl, by kernel_rfl, trivial⟩
theorem slC0 (z : Nat → Int) (v : Int) (L : List Int) : TC Try.prog 68 (sq1 (sq1 (sq2 in8))) (frL' (fe8 v (.sl 1 0 L.length 1 true none) 0 0)) 2 (stL (s8' z L)) .normal (frL' (fi8 v L 0 0 0)) 2 (stL (s8' z L)) := tc8 (φ := []) (nils := []) (by kernel_rfl) (by kernel_rfl) ⟨by kernel_rfl, by kernel_rfl, by kernel_rfl, by kernel_rfl, by kernel_rfl, by kernel_rfl, trivial⟩ (by kernel_rfl) ⟨by kernel_rfl, by kernel_rfl, trivial⟩
theorem slI0 (z : Nat → Int) (v : Int) (L : List Int) (hL : L.length < 65536) (c : Nat) (hc : ucnt L 0 = c) : TC Try.prog 68 (.seq (sq1 (sq1 (sq2 in8))) (.block 2 (.loop l8))) (frL' (fe8 v (.sl 1 0 L.length 1 true none) 0 0)) 2 (stL (s8' z L)) .normal (frL' (fe8 v (.sl 1 0 L.length 1 true none) 0 c)) 2 (stL (s8' z L)) := by
  have h := loop8 z v L 0 (by omega) hL L.length 0 0 (by omega) (by omega)
  rw [List.drop_zero, Nat.zero_add, hc] at h
  exact TC.seq (slC0 z v L) (TC.block (TC.loop h) (.inr rfl))
theorem slE0 (z : Nat → Int) (v : Int) (L : List Int) : TC Try.prog 68 (sq2 (sq2 o8)) (frL' (fo8 v (.sl 1 0 L.length 1 true none) 0)) 2 (stL (s8' z L)) .normal (frL' (fo8 v (.sl 1 0 L.length 1 true none) 1)) 2 (stL (s8' z L)) := tc8 (φ := []) (nils := []) (by kernel_rfl) (by kernel_rfl) ⟨by kernel_rfl, by kernel_rfl, by kernel_rfl, by kernel_rfl, trivial⟩ (by kernel_rfl) ⟨by kernel_rfl, by kernel_rfl, trivial⟩
theorem slA1 (z : Nat → Int) (v : Int) (L : List Int) : TC Try.prog 68 (sq1 o8) (frL' (fo8 v (.sl 1 0 L.length 1 true none) 1)) 2 (stL (s8' z L)) .normal (frL' (fo8 v (.sl 1 0 L.length 1 true none) 1)) 2 (stL (s8' z L)) := tc8 (φ := []) (nils := []) (by kernel_rfl) (by kernel_rfl) ⟨by kernel_rfl, by kernel_rfl, by kernel_rfl, by kernel_rfl, trivial⟩ (by kernel_rfl) ⟨by kernel_rfl, by kernel_rfl, trivial⟩
theorem slB1 (z : Nat → Int) (v : Int) (L : List Int) : TC Try.prog 68 (sq1 in8) (frL' (fo8 v (.sl 1 0 L.length 1 true none) 1)) 2 (stL (s8' z L)) .normal (frL' (fe8 v (.sl 1 0 L.length 1 true none) 1 0)) 2 (stL (s8' z L)) := tc8 (φ := []) (nils := []) (by kernel_rfl) (by kernel_rfl) ⟨by kernel_rfl, by kernel_rfl, by kernel_rfl, by kernel_rfl, by kernel_rfl, trivial⟩ (by kernel_rfl) ⟨by kernel_rfl, by kernel_rfl, trivial⟩
theorem slC1 (z : Nat → Int) (v : Int) (L : List Int) : TC Try.prog 68 (sq1 (sq1 (sq2 in8))) (frL' (fe8 v (.sl 1 0 L.length 1 true none) 1 0)) 2 (stL (s8' z L)) .normal (frL' (fi8 v L 1 0 0)) 2 (stL (s8' z L)) := tc8 (φ := []) (nils := []) (by kernel_rfl) (by kernel_rfl) ⟨by kernel_rfl, by kernel_rfl, by kernel_rfl, by kernel_rfl, by kernel_rfl, by kernel_rfl, trivial⟩ (by kernel_rfl) ⟨by kernel_rfl, by kernel_rfl, trivial⟩
theorem slI1 (z : Nat → Int) (v : Int) (L : List Int) (hL : L.length < 65536) (c : Nat) (hc : ucnt L 1 = c) : TC Try.prog 68 (.seq (sq1 (sq1 (sq2 in8))) (.block 2 (.loop l8))) (frL' (fe8 v (.sl 1 0 L.length 1 true none) 1 0)) 2 (stL (s8' z L)) .normal (frL' (fe8 v (.sl 1 0 L.length 1 true none) 1 c)) 2 (stL (s8' z L)) := by
  have h := loop8 z v L 1 (by omega) hL L.length 0 0 (by omega) (by omega)
  rw [List.drop_zero, Nat.zero_add, hc] at h
  exact TC.seq (slC1 z v L) (TC.block (TC.loop h) (.inr rfl))
theorem slE1 (z : Nat → Int) (v : Int) (L : List Int) : TC Try.prog 68 (sq2 (sq2 o8)) (frL' (fo8 v (.sl 1 0 L.length 1 true none) 1)) 2 (stL (s8' z L)) .normal (frL' (fo8 v (.sl 1 0 L.length 1 true none) 2)) 2 (stL (s8' z L)) := tc8 (φ := []) (nils := []) (by kernel_rfl) (by kernel_rfl) ⟨by kernel_rfl, by kernel_rfl, by kernel_rfl, by kernel_rfl, trivial⟩ (by kernel_rfl) ⟨by kernel_rfl, by kernel_rfl, trivial⟩
theorem slA2 (z : Nat → Int) (v : Int) (L : List Int) : TC Try.prog 68 (sq1 o8) (frL' (fo8 v (.sl 1 0 L.length 1 true none) 2)) 2 (stL (s8' z L)) .normal (frL' (fo8 v (.sl 1 0 L.length 1 true none) 2)) 2 (stL (s8' z L)) := tc8 (φ := []) (nils := []) (by kernel_rfl) (by kernel_rfl) ⟨by kernel_rfl, by kernel_rfl, by kernel_rfl, by kernel_rfl, trivial⟩ (by kernel_rfl) ⟨by kernel_rfl, by kernel_rfl, trivial⟩
theorem slB2 (z : Nat → Int) (v : Int) (L : List Int) : TC Try.prog 68 (sq1 in8) (frL' (fo8 v (.sl 1 0 L.length 1 true none) 2)) 2 (stL (s8' z L)) .normal (frL' (fe8 v (.sl 1 0 L.length 1 true none) 2 0)) 2 (stL (s8' z L)) := tc8 (φ := []) (nils := []) (by kernel_rfl) (by kernel_rfl) ⟨by kernel_rfl, by kernel_rfl, by kernel_rfl, by kernel_rfl, by kernel_rfl, trivial⟩ (by kernel_rfl) ⟨by kernel_rfl, by kernel_rfl, trivial⟩
theorem slC2 (z : Nat → Int) (v : Int) (L : List Int) : TC Try.prog 68 (sq1 (sq1 (sq2 in8))) (frL' (fe8 v (.sl 1 0 L.length 1 true none) 2 0)) 2 (stL (s8' z L)) .normal (frL' (fi8 v L 2 0 0)) 2 (stL (s8' z L)) := tc8 (φ := []) (nils := []) (by kernel_rfl) (by kernel_rfl) ⟨by kernel_rfl, by kernel_rfl, by kernel_rfl, by kernel_rfl, by kernel_rfl, by kernel_rfl, trivial⟩ (by kernel_rfl) ⟨by kernel_rfl, by kernel_rfl, trivial⟩
theorem slI2 (z : Nat → Int) (v : Int) (L : List Int) (hL : L.length < 65536) (c : Nat) (hc : ucnt L 2 = c) : TC Try.prog 68 (.seq (sq1 (sq1 (sq2 in8))) (.block 2 (.loop l8))) (frL' (fe8 v (.sl 1 0 L.length 1 true none) 2 0)) 2 (stL (s8' z L)) .normal (frL' (fe8 v (.sl 1 0 L.length 1 true none) 2 c)) 2 (stL (s8' z L)) := by
  have h := loop8 z v L 2 (by omega) hL L.length 0 0 (by omega) (by omega)
  rw [List.drop_zero, Nat.zero_add, hc] at h
  exact TC.seq (slC2 z v L) (TC.block (TC.loop h) (.inr rfl))
theorem slE2 (z : Nat → Int) (v : Int) (L : List Int) : TC Try.prog 68 (sq2 (sq2 o8)) (frL' (fo8 v (.sl 1 0 L.length 1 true none) 2)) 2 (stL (s8' z L)) .normal (frL' (fo8 v (.sl 1 0 L.length 1 true none) 3)) 2 (stL (s8' z L)) := tc8 (φ := []) (nils := []) (by kernel_rfl) (by kernel_rfl) ⟨by kernel_rfl, by kernel_rfl, by kernel_rfl, by kernel_rfl, trivial⟩ (by kernel_rfl) ⟨by kernel_rfl, by kernel_rfl, trivial⟩
theorem slA3 (z : Nat → Int) (v : Int) (L : List Int) : TC Try.prog 68 (sq1 o8) (frL' (fo8 v (.sl 1 0 L.length 1 true none) 3)) 2 (stL (s8' z L)) .normal (frL' (fo8 v (.sl 1 0 L.length 1 true none) 3)) 2 (stL (s8' z L)) := tc8 (φ := []) (nils := []) (by kernel_rfl) (by kernel_rfl) ⟨by kernel_rfl, by kernel_rfl, by kernel_rfl, by kernel_rfl, trivial⟩ (by kernel_rfl) ⟨by kernel_rfl, by kernel_rfl, trivial⟩
theorem slB3 (z : Nat → Int) (v : Int) (L : List Int) : TC Try.prog 68 (sq1 in8) (frL' (fo8 v (.sl 1 0 L.length 1 true none) 3)) 2 (stL (s8' z L)) .normal (frL' (fe8 v (.sl 1 0 L.length 1 true none) 3 0)) 2 (stL (s8' z L)) := tc8 (φ := []) (nils := []) (by kernel_rfl) (by kernel_rfl) ⟨by kernel_rfl, by kernel_rfl, by kernel_rfl, by kernel_rfl, by kernel_rfl, trivial⟩ (by kernel_rfl) ⟨by kernel_rfl, by kernel_rfl, trivial⟩
theorem slC3 (z : Nat → Int) (v : Int) (L : List Int) : TC Try.prog 68 (sq1 (sq1 (sq2 in8))) (frL' (fe8 v (.sl 1 0 L.length 1 true none) 3 0)) 2 (stL (s8' z L)) .normal (frL' (fi8 v L 3 0 0)) 2 (stL (s8' z L)) := tc8 (φ := []) (nils := []) (by kernel_rfl) (by kernel_rfl) ⟨by kernel_rfl, by kernel_rfl, by kernel_rfl, by kernel_rfl, by kernel_rfl, by kernel_rfl, trivial⟩ (by kernel_rfl) ⟨by kernel_rfl, by kernel_rfl, trivial⟩
theorem slI3 (z : Nat → Int) (v : Int) (L : List Int) (hL : L.length < 65536) (c : Nat) (hc : ucnt L 3 = c) : TC Try.prog 68 (.seq (sq1 (sq1 (sq2 in8))) (.block 2 (.loop l8))) (frL' (fe8 v (.sl 1 0 L.length 1 true none) 3 0)) 2 (stL (s8' z L)) .normal (frL' (fe8 v (.sl 1 0 L.length 1 true none) 3 c)) 2 (stL (s8' z L)) := by
  have h := loop8 z v L 3 (by omega) hL L.length 0 0 (by omega) (by omega)
  rw [List.drop_zero, Nat.zero_add, hc] at h
  exact TC.seq (slC3 z v L) (TC.block (TC.loop h) (.inr rfl))
theorem slE3 (z : Nat → Int) (v : Int) (L : List Int) : TC Try.prog 68 (sq2 (sq2 o8)) (frL' (fo8 v (.sl 1 0 L.length 1 true none) 3)) 2 (stL (s8' z L)) .normal (frL' (fo8 v (.sl 1 0 L.length 1 true none) 4)) 2 (stL (s8' z L)) := tc8 (φ := []) (nils := []) (by kernel_rfl) (by kernel_rfl) ⟨by kernel_rfl, by kernel_rfl, by kernel_rfl, by kernel_rfl, trivial⟩ (by kernel_rfl) ⟨by kernel_rfl, by kernel_rfl, trivial⟩
theorem slA4 (z : Nat → Int) (v : Int) (L : List Int) : TC Try.prog 68 (sq1 o8) (frL' (fo8 v (.sl 1 0 L.length 1 true none) 4)) 2 (stL (s8' z L)) .normal (frL' (fo8 v (.sl 1 0 L.length 1 true none) 4)) 2 (stL (s8' z L)) := tc8 (φ := []) (nils := []) (by kernel_rfl) (by kernel_rfl) ⟨by kernel_rfl, by kernel_rfl, by kernel_rfl, by kernel_rfl, trivial⟩ (by kernel_rfl) ⟨by kernel_rfl, by kernel_rfl, trivial⟩
theorem slB4 (z : Nat → Int) (v : Int) (L : List Int) : TC Try.prog 68 (sq1 in8) (frL' (fo8 v (.sl 1 0 L.length 1 true none) 4)) 2 (stL (s8' z L)) .normal (frL' (fe8 v (.sl 1 0 L.length 1 true none) 4 0)) 2 (stL (s8' z L)) := tc8 (φ := []) (nils := []) (by kernel_rfl) (by kernel_rfl) ⟨by kernel_rfl, by kernel_rfl, by kernel_rfl, by kernel_rfl, by kernel_rfl, trivial⟩ (by kernel_rfl) ⟨by kernel_rfl, by kernel_rfl, trivial⟩
theorem slC4 (z : Nat → Int) (v : Int) (L : List Int) : TC Try.prog 68 (sq1 (sq1 (sq2 in8))) (frL' (fe8 v (.sl 1 0 L.length 1 true none) 4 0)) 2 (stL (s8' z L)) .normal (frL' (fi8 v L 4 0 0)) 2 (stL (s8' z L)) := tc8 (φ := []) (nils := []) (by kernel_rfl) (by kernel_rfl) ⟨by kernel_rfl, by kernel_rfl, by kernel_rfl, by kernel_rfl, by kernel_rfl, by kernel_rfl, trivial⟩ (by kernel_rfl) ⟨by kernel_rfl, by kernel_rfl, trivial⟩
theorem slI4 (z : Nat → Int) (v : Int) (L : List Int) (hL : L.length < 65536) (c : Nat) (hc : ucnt L 4 = c) : TC Try.prog 68 (.seq (sq1 (sq1 (sq2 in8))) (.block 2 (.loop l8))) (frL' (fe8 v (.sl 1 0 L.length 1 true none) 4 0)) 2 (stL (s8' z L)) .normal (frL' (fe8 v (.sl 1 0 L.length 1 true none) 4 c)) 2 (stL (s8' z L)) := by
  have h := loop8 z v L 4 (by omega) hL L.length 0 0 (by omega) (by omega)
  rw [List.drop_zero, Nat.zero_add, hc] at h
  exact TC.seq (slC4 z v L) (TC.block (TC.loop h) (.inr rfl))
theorem slE4 (z : Nat → Int) (v : Int) (L : List Int) : TC Try.prog 68 (sq2 (sq2 o8)) (frL' (fo8 v (.sl 1 0 L.length 1 true none) 4)) 2 (stL (s8' z L)) .normal (frL' (fo8 v (.sl 1 0 L.length 1 true none) 5)) 2 (stL (s8' z L)) := tc8 (φ := []) (nils := []) (by kernel_rfl) (by kernel_rfl) ⟨by kernel_rfl, by kernel_rfl, by kernel_rfl, by kernel_rfl, trivial⟩ (by kernel_rfl) ⟨by kernel_rfl, by kernel_rfl, trivial⟩
theorem slA5 (z : Nat → Int) (v : Int) (L : List Int) : TC Try.prog 68 (sq1 o8) (frL' (fo8 v (.sl 1 0 L.length 1 true none) 5)) 2 (stL (s8' z L)) .normal (frL' (fo8 v (.sl 1 0 L.length 1 true none) 5)) 2 (stL (s8' z L)) := tc8 (φ := []) (nils := []) (by kernel_rfl) (by kernel_rfl) ⟨by kernel_rfl, by kernel_rfl, by kernel_rfl, by kernel_rfl, trivial⟩ (by kernel_rfl) ⟨by kernel_rfl, by kernel_rfl, trivial⟩
theorem slB5 (z : Nat → Int) (v : Int) (L : List Int) : TC Try.prog 68 (sq1 in8) (frL' (fo8 v (.sl 1 0 L.length 1 true none) 5)) 2 (stL (s8' z L)) .normal (frL' (fe8 v (.sl 1 0 L.length 1 true none) 5 0)) 2 (stL (s8' z L)) := tc8 (φ := []) (nils := []) (by kernel_rfl) (by kernel_rfl) ⟨by kernel_rfl, by kernel_rfl, by kernel_rfl, by kernel_rfl, by kernel_rfl, trivial⟩ (by kernel_rfl) ⟨by kernel_rfl, by kernel_rfl, trivial⟩
theorem slC5 (z : Nat → Int) (v : Int) (L : List Int) : TC Try.prog 68 (sq1 (sq1 (sq2 in8))) (frL' (fe8 v (.sl 1 0 L.length 1 true none) 5 0)) 2 (stL (s8' z L)) .normal (frL' (fi8 v L 5 0 0)) 2 (stL (s8' z L)) := tc8 (φ := []) (nils := []) (by kernel_rfl) (by kernel_rfl) ⟨by kernel_rfl, by kernel_rfl, by kernel_rfl, by kernel_rfl, by kernel_rfl, by kernel_rfl, trivial⟩ (by kernel_rfl) ⟨by kernel_rfl, by kernel_rfl, trivial⟩
theorem slI5 (z : Nat → Int) (v : Int) (L : List Int) (hL : L.length < 65536) (c : Nat) (hc : ucnt L 5 = c) : TC Try.prog 68 (.seq (sq1 (sq1 (sq2 in8))) (.block 2 (.loop l8))) (frL' (fe8 v (.sl 1 0 L.length 1 true none) 5 0)) 2 (stL (s8' z L)) .normal (frL' (fe8 v (.sl 1 0 L.length 1 true none) 5 c)) 2 (stL (s8' z L)) := by
  have h := loop8 z v L 5 (by omega) hL L.length 0 0 (by omega) (by omega)
  rw [List.drop_zero, Nat.zero_add, hc] at h
  exact TC.seq (slC5 z v L) (TC.block (TC.loop h) (.inr rfl))
theorem slE5 (z : Nat → Int) (v : Int) (L : List Int) : TC Try.prog 68 (sq2 (sq2 o8)) (frL' (fo8 v (.sl 1 0 L.length 1 true none) 5)) 2 (stL (s8' z L)) .normal (frL' (fo8 v (.sl 1 0 L.length 1 true none) 6)) 2 (stL (s8' z L)) := tc8 (φ := []) (nils := []) (by kernel_rfl) (by kernel_rfl) ⟨by kernel_rfl, by kernel_rfl, by kernel_rfl, by kernel_rfl, trivial⟩ (by kernel_rfl) ⟨by kernel_rfl, by kernel_rfl, trivial⟩
theorem slA6 (z : Nat → Int) (v : Int) (L : List Int) : TC Try.prog 68 (sq1 o8) (frL' (fo8 v (.sl 1 0 L.length 1 true none) 6)) 2 (stL (s8' z L)) .normal (frL' (fo8 v (.sl 1 0 L.length 1 true none) 6)) 2 (stL (s8' z L)) := tc8 (φ := []) (nils := []) (by kernel_rfl) (by kernel_rfl) ⟨by kernel_rfl, by kernel_rfl, by kernel_rfl, by kernel_rfl, trivial⟩ (by kernel_rfl) ⟨by kernel_rfl, by kernel_rfl, trivial⟩
theorem slB6 (z : Nat → Int) (v : Int) (L : List Int) : TC Try.prog 68 (sq1 in8) (frL' (fo8 v (.sl 1 0 L.length 1 true none) 6)) 2 (stL (s8' z L)) .normal (frL' (fe8 v (.sl 1 0 L.length 1 true none) 6 0)) 2 (stL (s8' z L)) := tc8 (φ := []) (nils := []) (by kernel_rfl) (by kernel_rfl) ⟨by kernel_rfl, by kernel_rfl, by kernel_rfl, by kernel_rfl, by kernel_rfl, trivial⟩ (by kernel_rfl) ⟨by kernel_rfl, by kernel_rfl, trivial⟩
theorem slC6 (z : Nat → Int) (v : Int) (L : List Int) : TC Try.prog 68 (sq1 (sq1 (sq2 in8))) (frL' (fe8 v (.sl 1 0 L.length 1 true none) 6 0)) 2 (stL (s8' z L)) .normal (frL' (fi8 v L 6 0 0)) 2 (stL (s8' z L)) := tc8 (φ := []) (nils := []) (by kernel_rfl) (by kernel_rfl) ⟨by kernel_rfl, by kernel_rfl, by kernel_rfl, by kernel_rfl, by kernel_rfl, by kernel_rfl, trivial⟩ (by kernel_rfl) ⟨by kernel_rfl, by kernel_rfl, trivial⟩
theorem slI6 (z : Nat → Int) (v : Int) (L : List Int) (hL : L.length < 65536) (c : Nat) (hc : ucnt L 6 = c) : TC Try.prog 68 (.seq (sq1 (sq1 (sq2 in8))) (.block 2 (.loop l8))) (frL' (fe8 v (.sl 1 0 L.length 1 true none) 6 0)) 2 (stL (s8' z L)) .normal (frL' (fe8 v (.sl 1 0 L.length 1 true none) 6 c)) 2 (stL (s8' z L)) := by
  have h := loop8 z v L 6 (by omega) hL L.length 0 0 (by omega) (by omega)
  rw [List.drop_zero, Nat.zero_add, hc] at h
  exact TC.seq (slC6 z v L) (TC.block (TC.loop h) (.inr rfl))
theorem slE6 (z : Nat → Int) (v : Int) (L : List Int) : TC Try.prog 68 (sq2 (sq2 o8)) (frL' (fo8 v (.sl 1 0 L.length 1 true none) 6)) 2 (stL (s8' z L)) .normal (frL' (fo8 v (.sl 1 0 L.length 1 true none) 7)) 2 (stL (s8' z L)) := tc8 (φ := []) (nils := []) (by kernel_rfl) (by kernel_rfl) ⟨by kernel_rfl, by kernel_rfl, by kernel_rfl, by kernel_rfl, trivial⟩ (by kernel_rfl) ⟨by kernel_rfl, by kernel_rfl, trivial⟩
theorem slA7 (z : Nat → Int) (v : Int) (L : List Int) : TC Try.prog 68 (sq1 o8) (frL' (fo8 v (.sl 1 0 L.length 1 true none) 7)) 2 (stL (s8' z L)) .normal (frL' (fo8 v (.sl 1 0 L.length 1 true none) 7)) 2 (stL (s8' z L)) := tc8 (φ := []) (nils := []) (by kernel_rfl) (by kernel_rfl) ⟨by kernel_rfl, by kernel_rfl, by kernel_rfl, by kernel_rfl, trivial⟩ (by kernel_rfl) ⟨by kernel_rfl, by kernel_rfl, trivial⟩
theorem slB7 (z : Nat → Int) (v : Int) (L : List Int) : TC Try.prog 68 (sq1 in8) (frL' (fo8 v (.sl 1 0 L.length 1 true none) 7)) 2 (stL (s8' z L)) .normal (frL' (fe8 v (.sl 1 0 L.length 1 true none) 7 0)) 2 (stL (s8' z L)) := tc8 (φ := []) (nils := []) (by kernel_rfl) (by kernel_rfl) ⟨by kernel_rfl, by kernel_rfl, by kernel_rfl, by kernel_rfl, by kernel_rfl, trivial⟩ (by kernel_rfl) ⟨by kernel_rfl, by kernel_rfl, trivial⟩
theorem slC7 (z : Nat → Int) (v : Int) (L : List Int) : TC Try.prog 68 (sq1 (sq1 (sq2 in8))) (frL' (fe8 v (.sl 1 0 L.length 1 true none) 7 0)) 2 (stL (s8' z L)) .normal (frL' (fi8 v L 7 0 0)) 2 (stL (s8' z L)) := tc8 (φ := []) (nils := []) (by kernel_rfl) (by kernel_rfl) ⟨by kernel_rfl, by kernel_rfl, by kernel_rfl, by kernel_rfl, by kernel_rfl, by kernel_rfl, trivial⟩ (by kernel_rfl) ⟨by kernel_rfl, by kernel_rfl, trivial⟩
theorem slI7 (z : Nat → Int) (v : Int) (L : List Int) (hL : L.length < 65536) (c : Nat) (hc : ucnt L 7 = c) : TC Try.prog 68 (.seq (sq1 (sq1 (sq2 in8))) (.block 2 (.loop l8))) (frL' (fe8 v (.sl 1 0 L.length 1 true none) 7 0)) 2 (stL (s8' z L)) .normal (frL' (fe8 v (.sl 1 0 L.length 1 true none) 7 c)) 2 (stL (s8' z L)) := by
  have h := loop8 z v L 7 (by omega) hL L.length 0 0 (by omega) (by omega)
  rw [List.drop_zero, Nat.zero_add, hc] at h
  exact TC.seq (slC7 z v L) (TC.block (TC.loop h) (.inr rfl))
theorem slE7 (z : Nat → Int) (v : Int) (L : List Int) : TC Try.prog 68 (sq2 (sq2 o8)) (frL' (fo8 v (.sl 1 0 L.length 1 true none) 7)) 2 (stL (s8' z L)) .normal (frL' (fo8 v (.sl 1 0 L.length 1 true none) 8)) 2 (stL (s8' z L)) := tc8 (φ := []) (nils := []) (by kernel_rfl) (by kernel_rfl) ⟨by kernel_rfl, by kernel_rfl, by kernel_rfl, by kernel_rfl, trivial⟩ (by kernel_rfl) ⟨by kernel_rfl, by kernel_rfl, trivial⟩
theorem slX (z : Nat → Int) (v : Int) (L : List Int) : TC Try.prog 68 o8 (frL' (fo8 v (.sl 1 0 L.length 1 true none) 8)) 2 (stL (s8' z L)) (.exit 0) (frL' ([])) 2 (stL (s8' z L)) := tc8 (φ := []) (nils := []) (by kernel_rfl) (by kernel_rfl) trivial (by kernel_rfl) ⟨by kernel_rfl, by kernel_rfl, trivial⟩
theorem slZ (z : Nat → Int) (L : List Int) : TC Try.prog 68 (sq2 (sq2 out8)) (frL' ([])) 2 (stL (s8' z L)) .ret (frL' ([(4, .sc (.bool true))])) 2 (stL (s8' z L)) := tc8 (φ := []) (nils := []) (by kernel_rfl) (by kernel_rfl) ⟨by kernel_rfl, trivial⟩ (by kernel_rfl) ⟨by kernel_rfl, by kernel_rfl, trivial⟩
theorem slS (z : Nat → Int) (v : Int) (L : List Int) : TC Try.prog 68 (sq1 (sq1 (sq2 out8))) (frL' ([(1, .sc (.int .i64 v)), (2, .ptr 0 0), (5, (.sl 1 0 L.length 1 true none))])) 2 (stL (s8' z L)) .normal (frL' (fo8 v (.sl 1 0 L.length 1 true none) 0)) 2 (stL (s8' z L)) := tc8 (φ := []) (nils := []) (by kernel_rfl) (by kernel_rfl) ⟨by kernel_rfl, by kernel_rfl, by kernel_rfl, by kernel_rfl, trivial⟩ (by kernel_rfl) ⟨by kernel_rfl, by kernel_rfl, trivial⟩
theorem slD0_0_true_1 (z : Nat → Int) (L : List Int) (h : (!eqb (z 1) 0) = true) : TC Try.prog 68 (sq2 (sq2 in8)) (frL' (fe8 0 (.sl 1 0 L.length 1 true none) 0 1)) 2 (stL (s8' z L)) .normal (frL' (fo8 0 (.sl 1 0 L.length 1 true none) 0)) 2 (stL (s8' z L)) := by
  have e : (oSt (ev8 [(0, true), (1, true), (2, true), (3, true)] [] 2 (sq2 (sq2 in8)) (fe8 0 (.sl 1 0 L.length 1 true none) 0 1) (s8' z L))).ok = okT [(!eqb (z 1) 0) == true, (!eqb (z 1) 0) == true, (!eqb (z 1) 0) == true, (!eqb (z 1) 0) == true] true := by kernel_rfl
  exact tc8 (φ := [(0, true), (1, true), (2, true), (3, true)]) (nils := []) (by kernel_rfl) (e.trans (by rw [h]; rfl)) ⟨by kernel_rfl, by kernel_rfl, by kernel_rfl, by kernel_rfl, trivial⟩ (by kernel_rfl) ⟨by kernel_rfl, by kernel_rfl, trivial⟩
theorem slD0_0_false_0 (z : Nat → Int) (L : List Int) (h : (!eqb (z 1) 0) = false) : TC Try.prog 68 (sq2 (sq2 in8)) (frL' (fe8 0 (.sl 1 0 L.length 1 true none) 0 0)) 2 (stL (s8' z L)) .normal (frL' (fo8 0 (.sl 1 0 L.length 1 true none) 0)) 2 (stL (s8' z L)) := by
  have e : (oSt (ev8 [(0, false), (1, false), (2, false), (3, false)] [] 2 (sq2 (sq2 in8)) (fe8 0 (.sl 1 0 L.length 1 true none) 0 0) (s8' z L))).ok = okT [(!eqb (z 1) 0) == false, (!eqb (z 1) 0) == false, (!eqb (z 1) 0) == false, (!eqb (z 1) 0) == false] true := by kernel_rfl
  exact tc8 (φ := [(0, false), (1, false), (2, false), (3, false)]) (nils := []) (by kernel_rfl) (e.trans (by rw [h]; rfl)) ⟨by kernel_rfl, by kernel_rfl, by kernel_rfl, by kernel_rfl, trivial⟩ (by kernel_rfl) ⟨by kernel_rfl, by kernel_rfl, trivial⟩
theorem slD0_0_false_1 (z : Nat → Int) (L : List Int) (h : (!eqb (z 1) 0) = false) : TC Try.prog 68 (sq2 (sq2 in8)) (frL' (fe8 0 (.sl 1 0 L.length 1 true none) 0 1)) 2 (stL (s8' z L)) .normal (frL' (fo8 0 (.sl 1 0 L.length 1 true none) 0)) 2 (stL (s8' z L)) := by
  have e : (oSt (ev8 [(0, false), (1, false), (2, false), (3, false)] [] 2 (sq2 (sq2 in8)) (fe8 0 (.sl 1 0 L.length 1 true none) 0 1) (s8' z L))).ok = okT [(!eqb (z 1) 0) == false, (!eqb (z 1) 0) == false, (!eqb (z 1) 0) == false, (!eqb (z 1) 0) == false] true := by kernel_rfl
  exact tc8 (φ := [(0, false), (1, false), (2, false), (3, false)]) (nils := []) (by kernel_rfl) (e.trans (by rw [h]; rfl)) ⟨by kernel_rfl, by kernel_rfl, by kernel_rfl, by kernel_rfl, trivial⟩ (by kernel_rfl) ⟨by kernel_rfl, by kernel_rfl, trivial⟩
theorem slR0_0 (z : Nat → Int) (L : List Int) (hL : L.length < 65536) (hLe : L = resL z 0) : TC Try.prog 68 o8 (frL' (fo8 0 (.sl 1 0 L.length 1 true none) 0)) 2 (stL (s8' z L)) .normal (frL' (fo8 0 (.sl 1 0 L.length 1 true none) 1)) 2 (stL (s8' z L)) := by
  rw [o8_eq]
  have hr := c0_0 z
  rw [← hLe] at hr
  cases hz : eqb (z 1) 0 with
  | false =>
    have hc := hr.2 hz
    exact TC.seq (slA0 z 0 L ) (TC.seq (TC.block (TC.seq (slB0 z 0 L ) (TC.seq (slI0 z 0 L hL 1 hc) (slD0_0_true_1 z L (by rw [hz]; rfl)))) (.inl rfl)) (slE0 z 0 L ))
  | true =>
    rcases (show ucnt L 0 = 0 ∨ ucnt L 0 = 1 by omega) with hc | hc
    · exact TC.seq (slA0 z 0 L ) (TC.seq (TC.block (TC.seq (slB0 z 0 L ) (TC.seq (slI0 z 0 L hL 0 hc) (slD0_0_false_0 z L (by rw [hz]; rfl)))) (.inl rfl)) (slE0 z 0 L ))
    · exact TC.seq (slA0 z 0 L ) (TC.seq (TC.block (TC.seq (slB0 z 0 L ) (TC.seq (slI0 z 0 L hL 1 hc) (slD0_0_false_1 z L (by rw [hz]; rfl)))) (.inl rfl)) (slE0 z 0 L ))
theorem slD0_1_true_0 (z : Nat → Int) (L : List Int) (h : (!eqb (z 3) 0) = true) : TC Try.prog 68 (sq2 (sq2 in8)) (frL' (fe8 0 (.sl 1 0 L.length 1 true none) 1 0)) 2 (stL (s8' z L)) .normal (frL' (fo8 0 (.sl 1 0 L.length 1 true none) 1)) 2 (stL (s8' z L)) := by
  have e : (oSt (ev8 [(0, true), (1, true), (2, true), (3, true)] [] 2 (sq2 (sq2 in8)) (fe8 0 (.sl 1 0 L.length 1 true none) 1 0) (s8' z L))).ok = okT [(!eqb (z 3) 0) == true, (!eqb (z 3) 0) == true, (!eqb (z 3) 0) == true, (!eqb (z 3) 0) == true] true := by kernel_rfl
  exact tc8 (φ := [(0, true), (1, true), (2, true), (3, true)]) (nils := []) (by kernel_rfl) (e.trans (by rw [h]; rfl)) ⟨by kernel_rfl, by kernel_rfl, by kernel_rfl, by kernel_rfl, trivial⟩ (by kernel_rfl) ⟨by kernel_rfl, by kernel_rfl, trivial⟩
theorem slD0_1_false_0 (z : Nat → Int) (L : List Int) (h : (!eqb (z 3) 0) = false) : TC Try.prog 68 (sq2 (sq2 in8)) (frL' (fe8 0 (.sl 1 0 L.length 1 true none) 1 0)) 2 (stL (s8' z L)) .normal (frL' (fo8 0 (.sl 1 0 L.length 1 true none) 1)) 2 (stL (s8' z L)) := by
  have e : (oSt (ev8 [(0, false), (1, false), (2, false), (3, false)] [] 2 (sq2 (sq2 in8)) (fe8 0 (.sl 1 0 L.length 1 true none) 1 0) (s8' z L))).ok = okT [(!eqb (z 3) 0) == false, (!eqb (z 3) 0) == false, (!eqb (z 3) 0) == false, (!eqb (z 3) 0) == false] true := by kernel_rfl
  exact tc8 (φ := [(0, false), (1, false), (2, false), (3, false)]) (nils := []) (by kernel_rfl) (e.trans (by rw [h]; rfl)) ⟨by kernel_rfl, by kernel_rfl, by kernel_rfl, by kernel_rfl, trivial⟩ (by kernel_rfl) ⟨by kernel_rfl, by kernel_rfl, trivial⟩
theorem slR0_1 (z : Nat → Int) (L : List Int) (hL : L.length < 65536) (hLe : L = resL z 0) : TC Try.prog 68 o8 (frL' (fo8 0 (.sl 1 0 L.length 1 true none) 1)) 2 (stL (s8' z L)) .normal (frL' (fo8 0 (.sl 1 0 L.length 1 true none) 2)) 2 (stL (s8' z L)) := by
  rw [o8_eq]
  have hr := c0_1 z
  rw [← hLe] at hr
  have hc := hr
  cases hz : eqb (z 3) 0 with
  | false => exact TC.seq (slA1 z 0 L ) (TC.seq (TC.block (TC.seq (slB1 z 0 L ) (TC.seq (slI1 z 0 L hL 0 hc) (slD0_1_true_0 z L (by rw [hz]; rfl)))) (.inl rfl)) (slE1 z 0 L ))
  | true => exact TC.seq (slA1 z 0 L ) (TC.seq (TC.block (TC.seq (slB1 z 0 L ) (TC.seq (slI1 z 0 L hL 0 hc) (slD0_1_false_0 z L (by rw [hz]; rfl)))) (.inl rfl)) (slE1 z 0 L ))
theorem slD0_2_true_0 (z : Nat → Int) (L : List Int) (h : (!eqb (z 5) 0) = true) : TC Try.prog 68 (sq2 (sq2 in8)) (frL' (fe8 0 (.sl 1 0 L.length 1 true none) 2 0)) 2 (stL (s8' z L)) .normal (frL' (fo8 0 (.sl 1 0 L.length 1 true none) 2)) 2 (stL (s8' z L)) := by
  have e : (oSt (ev8 [(0, true), (1, true), (2, true), (3, true)] [] 2 (sq2 (sq2 in8)) (fe8 0 (.sl 1 0 L.length 1 true none) 2 0) (s8' z L))).ok = okT [(!eqb (z 5) 0) == true, (!eqb (z 5) 0) == true, (!eqb (z 5) 0) == true, (!eqb (z 5) 0) == true] true := by kernel_rfl
  exact tc8 (φ := [(0, true), (1, true), (2, true), (3, true)]) (nils := []) (by kernel_rfl) (e.trans (by rw [h]; rfl)) ⟨by kernel_rfl, by kernel_rfl, by kernel_rfl, by kernel_rfl, trivial⟩ (by kernel_rfl) ⟨by kernel_rfl, by kernel_rfl, trivial⟩
theorem slD0_2_false_0 (z : Nat → Int) (L : List Int) (h : (!eqb (z 5) 0) = false) : TC Try.prog 68 (sq2 (sq2 in8)) (frL' (fe8 0 (.sl 1 0 L.length 1 true none) 2 0)) 2 (stL (s8' z L)) .normal (frL' (fo8 0 (.sl 1 0 L.length 1 true none) 2)) 2 (stL (s8' z L)) := by
  have e : (oSt (ev8 [(0, false), (1, false), (2, false), (3, false)] [] 2 (sq2 (sq2 in8)) (fe8 0 (.sl 1 0 L.length 1 true none) 2 0) (s8' z L))).ok = okT [(!eqb (z 5) 0) == false, (!eqb (z 5) 0) == false, (!eqb (z 5) 0) == false, (!eqb (z 5) 0) == false] true := by kernel_rfl
  exact tc8 (φ := [(0, false), (1, false), (2, false), (3, false)]) (nils := []) (by kernel_rfl) (e.trans (by rw [h]; rfl)) ⟨by kernel_rfl, by kernel_rfl, by kernel_rfl, by kernel_rfl, trivial⟩ (by kernel_rfl) ⟨by kernel_rfl, by kernel_rfl, trivial⟩
theorem slR0_2 (z : Nat → Int) (L : List Int) (hL : L.length < 65536) (hLe : L = resL z 0) : TC Try.prog 68 o8 (frL' (fo8 0 (.sl 1 0 L.length 1 true none) 2)) 2 (stL (s8' z L)) .normal (frL' (fo8 0 (.sl 1 0 L.length 1 true none) 3)) 2 (stL (s8' z L)) := by
  rw [o8_eq]
  have hr := c0_2 z
  rw [← hLe] at hr
  have hc := hr
  cases hz : eqb (z 5) 0 with
  | false => exact TC.seq (slA2 z 0 L ) (TC.seq (TC.block (TC.seq (slB2 z 0 L ) (TC.seq (slI2 z 0 L hL 0 hc) (slD0_2_true_0 z L (by rw [hz]; rfl)))) (.inl rfl)) (slE2 z 0 L ))
  | true => exact TC.seq (slA2 z 0 L ) (TC.seq (TC.block (TC.seq (slB2 z 0 L ) (TC.seq (slI2 z 0 L hL 0 hc) (slD0_2_false_0 z L (by rw [hz]; rfl)))) (.inl rfl)) (slE2 z 0 L ))
theorem slD0_3_true_0 (z : Nat → Int) (L : List Int) (h : (!eqb (z 7) 0) = true) : TC Try.prog 68 (sq2 (sq2 in8)) (frL' (fe8 0 (.sl 1 0 L.length 1 true none) 3 0)) 2 (stL (s8' z L)) .normal (frL' (fo8 0 (.sl 1 0 L.length 1 true none) 3)) 2 (stL (s8' z L)) := by
  have e : (oSt (ev8 [(0, true), (1, true), (2, true), (3, true)] [] 2 (sq2 (sq2 in8)) (fe8 0 (.sl 1 0 L.length 1 true none) 3 0) (s8' z L))).ok = okT [(!eqb (z 7) 0) == true, (!eqb (z 7) 0) == true, (!eqb (z 7) 0) == true, (!eqb (z 7) 0) == true] true := by kernel_rfl
  exact tc8 (φ := [(0, true), (1, true), (2, true), (3, true)]) (nils := []) (by kernel_rfl) (e.trans (by rw [h]; rfl)) ⟨by kernel_rfl, by kernel_rfl, by kernel_rfl, by kernel_rfl, trivial⟩ (by kernel_rfl) ⟨by kernel_rfl, by kernel_rfl, trivial⟩
theorem slD0_3_false_0 (z : Nat → Int) (L : List Int) (h : (!eqb (z 7) 0) = false) : TC Try.prog 68 (sq2 (sq2 in8)) (frL' (fe8 0 (.sl 1 0 L.length 1 true none) 3 0)) 2 (stL (s8' z L)) .normal (frL' (fo8 0 (.sl 1 0 L.length 1 true none) 3)) 2 (stL (s8' z L)) := by
  have e : (oSt (ev8 [(0, false), (1, false), (2, false), (3, false)] [] 2 (sq2 (sq2 in8)) (fe8 0 (.sl 1 0 L.length 1 true none) 3 0) (s8' z L))).ok = okT [(!eqb (z 7) 0) == false, (!eqb (z 7) 0) == false, (!eqb (z 7) 0) == false, (!eqb (z 7) 0) == false] true := by kernel_rfl
  exact tc8 (φ := [(0, false), (1, false), (2, false), (3, false)]) (nils := []) (by kernel_rfl) (e.trans (by rw [h]; rfl)) ⟨by kernel_rfl, by kernel_rfl, by kernel_rfl, by kernel_rfl, trivial⟩ (by kernel_rfl) ⟨by kernel_rfl, by kernel_rfl, trivial⟩
theorem slR0_3 (z : Nat → Int) (L : List Int) (hL : L.length < 65536) (hLe : L = resL z 0) : TC Try.prog 68 o8 (frL' (fo8 0 (.sl 1 0 L.length 1 true none) 3)) 2 (stL (s8' z L)) .normal (frL' (fo8 0 (.sl 1 0 L.length 1 true none) 4)) 2 (stL (s8' z L)) := by
  rw [o8_eq]
  have hr := c0_3 z
  rw [← hLe] at hr
  have hc := hr
  cases hz : eqb (z 7) 0 with
  | false => exact TC.seq (slA3 z 0 L ) (TC.seq (TC.block (TC.seq (slB3 z 0 L ) (TC.seq (slI3 z 0 L hL 0 hc) (slD0_3_true_0 z L (by rw [hz]; rfl)))) (.inl rfl)) (slE3 z 0 L ))
  | true => exact TC.seq (slA3 z 0 L ) (TC.seq (TC.block (TC.seq (slB3 z 0 L ) (TC.seq (slI3 z 0 L hL 0 hc) (slD0_3_false_0 z L (by rw [hz]; rfl)))) (.inl rfl)) (slE3 z 0 L ))
theorem slD0_4_true_0 (z : Nat → Int) (L : List Int) (h : (!eqb (z 9) 0) = true) : TC Try.prog 68 (sq2 (sq2 in8)) (frL' (fe8 0 (.sl 1 0 L.length 1 true none) 4 0)) 2 (stL (s8' z L)) .normal (frL' (fo8 0 (.sl 1 0 L.length 1 true none) 4)) 2 (stL (s8' z L)) := by
  have e : (oSt (ev8 [(0, true), (1, true), (2, true), (3, true)] [] 2 (sq2 (sq2 in8)) (fe8 0 (.sl 1 0 L.length 1 true none) 4 0) (s8' z L))).ok = okT [(!eqb (z 9) 0) == true, (!eqb (z 9) 0) == true, (!eqb (z 9) 0) == true, (!eqb (z 9) 0) == true] true := by kernel_rfl
  exact tc8 (φ := [(0, true), (1, true), (2, true), (3, true)]) (nils := []) (by kernel_rfl) (e.trans (by rw [h]; rfl)) ⟨by kernel_rfl, by kernel_rfl, by kernel_rfl, by kernel_rfl, trivial⟩ (by kernel_rfl) ⟨by kernel_rfl, by kernel_rfl, trivial⟩
theorem slD0_4_false_0 (z : Nat → Int) (L : List Int) (h : (!eqb (z 9) 0) = false) : TC Try.prog 68 (sq2 (sq2 in8)) (frL' (fe8 0 (.sl 1 0 L.length 1 true none) 4 0)) 2 (stL (s8' z L)) .normal (frL' (fo8 0 (.sl 1 0 L.length 1 true none) 4)) 2 (stL (s8' z L)) := by
  have e : (oSt (ev8 [(0, false), (1, false), (2, false), (3, false)] [] 2 (sq2 (sq2 in8)) (fe8 0 (.sl 1 0 L.length 1 true none) 4 0) (s8' z L))).ok = okT [(!eqb (z 9) 0) == false, (!eqb (z 9) 0) == false, (!eqb (z 9) 0) == false, (!eqb (z 9) 0) == false] true := by kernel_rfl
  exact tc8 (φ := [(0, false), (1, false), (2, false), (3, false)]) (nils := []) (by kernel_rfl) (e.trans (by rw [h]; rfl)) ⟨by kernel_rfl, by kernel_rfl, by kernel_rfl, by kernel_rfl, trivial⟩ (by kernel_rfl) ⟨by kernel_rfl, by kernel_rfl, trivial⟩
theorem slR0_4 (z : Nat → Int) (L : List Int) (hL : L.length < 65536) (hLe : L = resL z 0) : TC Try.prog 68 o8 (frL' (fo8 0 (.sl 1 0 L.length 1 true none) 4)) 2 (stL (s8' z L)) .normal (frL' (fo8 0 (.sl 1 0 L.length 1 true none) 5)) 2 (stL (s8' z L)) := by
  rw [o8_eq]
  have hr := c0_4 z
  rw [← hLe] at hr
  have hc := hr
  cases hz : eqb (z 9) 0 with
  | false => exact TC.seq (slA4 z 0 L ) (TC.seq (TC.block (TC.seq (slB4 z 0 L ) (TC.seq (slI4 z 0 L hL 0 hc) (slD0_4_true_0 z L (by rw [hz]; rfl)))) (.inl rfl)) (slE4 z 0 L ))
  | true => exact TC.seq (slA4 z 0 L ) (TC.seq (TC.block (TC.seq (slB4 z 0 L ) (TC.seq (slI4 z 0 L hL 0 hc) (slD0_4_false_0 z L (by rw [hz]; rfl)))) (.inl rfl)) (slE4 z 0 L ))
theorem slD0_5_true_0 (z : Nat → Int) (L : List Int) (h : (!eqb (z 11) 0) = true) : TC Try.prog 68 (sq2 (sq2 in8)) (frL' (fe8 0 (.sl 1 0 L.length 1 true none) 5 0)) 2 (stL (s8' z L)) .normal (frL' (fo8 0 (.sl 1 0 L.length 1 true none) 5)) 2 (stL (s8' z L)) := by
  have e : (oSt (ev8 [(0, true), (1, true), (2, true), (3, true)] [] 2 (sq2 (sq2 in8)) (fe8 0 (.sl 1 0 L.length 1 true none) 5 0) (s8' z L))).ok = okT [(!eqb (z 11) 0) == true, (!eqb (z 11) 0) == true, (!eqb (z 11) 0) == true, (!eqb (z 11) 0) == true] true := by kernel_rfl
  exact tc8 (φ := [(0, true), (1, true), (2, true), (3, true)]) (nils := []) (by kernel_rfl) (e.trans (by rw [h]; rfl)) ⟨by kernel_rfl, by kernel_rfl, by kernel_rfl, by kernel_rfl, trivial⟩ (by kernel_rfl) ⟨by kernel_rfl, by kernel_rfl, trivial⟩
theorem slD0_5_false_0 (z : Nat → Int) (L : List Int) (h : (!eqb (z 11) 0) = false) : TC Try.prog 68 (sq2 (sq2 in8)) (frL' (fe8 0 (.sl 1 0 L.length 1 true none) 5 0)) 2 (stL (s8' z L)) .normal (frL' (fo8 0 (.sl 1 0 L.length 1 true none) 5)) 2 (stL (s8' z L)) := by
  have e : (oSt (ev8 [(0, false), (1, false), (2, false), (3, false)] [] 2 (sq2 (sq2 in8)) (fe8 0 (.sl 1 0 L.length 1 true none) 5 0) (s8' z L))).ok = okT [(!eqb (z 11) 0) == false, (!eqb (z 11) 0) == false, (!eqb (z 11) 0) == false, (!eqb (z 11) 0) == false] true := by kernel_rfl
  exact tc8 (φ := [(0, false), (1, false), (2, false), (3, false)]) (nils := []) (by kernel_rfl) (e.trans (by rw [h]; rfl)) ⟨by kernel_rfl, by kernel_rfl, by kernel_rfl, by kernel_rfl, trivial⟩ (by kernel_rfl) ⟨by kernel_rfl, by kernel_rfl, trivial⟩
theorem slR0_5 (z : Nat → Int) (L : List Int) (hL : L.length < 65536) (hLe : L = resL z 0) : TC Try.prog 68 o8 (frL' (fo8 0 (.sl 1 0 L.length 1 true none) 5)) 2 (stL (s8' z L)) .normal (frL' (fo8 0 (.sl 1 0 L.length 1 true none) 6)) 2 (stL (s8' z L)) := by
  rw [o8_eq]
  have hr := c0_5 z
  rw [← hLe] at hr
  have hc := hr
  cases hz : eqb (z 11) 0 with
  | false => exact TC.seq (slA5 z 0 L ) (TC.seq (TC.block (TC.seq (slB5 z 0 L ) (TC.seq (slI5 z 0 L hL 0 hc) (slD0_5_true_0 z L (by rw [hz]; rfl)))) (.inl rfl)) (slE5 z 0 L ))
  | true => exact TC.seq (slA5 z 0 L ) (TC.seq (TC.block (TC.seq (slB5 z 0 L ) (TC.seq (slI5 z 0 L hL 0 hc) (slD0_5_false_0 z L (by rw [hz]; rfl)))) (.inl rfl)) (slE5 z 0 L ))
theorem slD0_6_true_0 (z : Nat → Int) (L : List Int) (h : (!eqb (z 13) 0) = true) : TC Try.prog 68 (sq2 (sq2 in8)) (frL' (fe8 0 (.sl 1 0 L.length 1 true none) 6 0)) 2 (stL (s8' z L)) .normal (frL' (fo8 0 (.sl 1 0 L.length 1 true none) 6)) 2 (stL (s8' z L)) := by
  have e : (oSt (ev8 [(0, true), (1, true), (2, true), (3, true)] [] 2 (sq2 (sq2 in8)) (fe8 0 (.sl 1 0 L.length 1 true none) 6 0) (s8' z L))).ok = okT [(!eqb (z 13) 0) == true, (!eqb (z 13) 0) == true, (!eqb (z 13) 0) == true, (!eqb (z 13) 0) == true] true := by kernel_rfl
  exact tc8 (φ := [(0, true), (1, true), (2, true), (3, true)]) (nils := []) (by kernel_rfl) (e.trans (by rw [h]; rfl)) ⟨by kernel_rfl, by kernel_rfl, by kernel_rfl, by kernel_rfl, trivial⟩ (by kernel_rfl) ⟨by kernel_rfl, by kernel_rfl, trivial⟩
theorem slD0_6_false_0 (z : Nat → Int) (L : List Int) (h : (!eqb (z 13) 0) = false) : TC Try.prog 68 (sq2 (sq2 in8)) (frL' (fe8 0 (.sl 1 0 L.length 1 true none) 6 0)) 2 (stL (s8' z L)) .normal (frL' (fo8 0 (.sl 1 0 L.length 1 true none) 6)) 2 (stL (s8' z L)) := by
  have e : (oSt (ev8 [(0, false), (1, false), (2, false), (3, false)] [] 2 (sq2 (sq2 in8)) (fe8 0 (.sl 1 0 L.length 1 true none) 6 0) (s8' z L))).ok = okT [(!eqb (z 13) 0) == false, (!eqb (z 13) 0) == false, (!eqb (z 13) 0) == false, (!eqb (z 13) 0) == false] true := by kernel_rfl
  exact tc8 (φ := [(0, false), (1, false), (2, false), (3, false)]) (nils := []) (by kernel_rfl) (e.trans (by rw [h]; rfl)) ⟨by kernel_rfl, by kernel_rfl, by kernel_rfl, by kernel_rfl, trivial⟩ (by kernel_rfl) ⟨by kernel_rfl, by kernel_rfl, trivial⟩
theorem slR0_6 (z : Nat → Int) (L : List Int) (hL : L.length < 65536) (hLe : L = resL z 0) : TC Try.prog 68 o8 (frL' (fo8 0 (.sl 1 0 L.length 1 true none) 6)) 2 (stL (s8' z L)) .normal (frL' (fo8 0 (.sl 1 0 L.length 1 true none) 7)) 2 (stL (s8' z L)) := by
  rw [o8_eq]
  have hr := c0_6 z
  rw [← hLe] at hr
  have hc := hr
  cases hz : eqb (z 13) 0 with
  | false => exact TC.seq (slA6 z 0 L ) (TC.seq (TC.block (TC.seq (slB6 z 0 L ) (TC.seq (slI6 z 0 L hL 0 hc) (slD0_6_true_0 z L (by rw [hz]; rfl)))) (.inl rfl)) (slE6 z 0 L ))
  | true => exact TC.seq (slA6 z 0 L ) (TC.seq (TC.block (TC.seq (slB6 z 0 L ) (TC.seq (slI6 z 0 L hL 0 hc) (slD0_6_false_0 z L (by rw [hz]; rfl)))) (.inl rfl)) (slE6 z 0 L ))
theorem slD0_7_true_0 (z : Nat → Int) (L : List Int) (h : (!eqb (z 15) 0) = true) : TC Try.prog 68 (sq2 (sq2 in8)) (frL' (fe8 0 (.sl 1 0 L.length 1 true none) 7 0)) 2 (stL (s8' z L)) .normal (frL' (fo8 0 (.sl 1 0 L.length 1 true none) 7)) 2 (stL (s8' z L)) := by
  have e : (oSt (ev8 [(0, true), (1, true), (2, true), (3, true)] [] 2 (sq2 (sq2 in8)) (fe8 0 (.sl 1 0 L.length 1 true none) 7 0) (s8' z L))).ok = okT [(!eqb (z 15) 0) == true, (!eqb (z 15) 0) == true, (!eqb (z 15) 0) == true, (!eqb (z 15) 0) == true] true := by kernel_rfl
  exact tc8 (φ := [(0, true), (1, true), (2, true), (3, true)]) (nils := []) (by kernel_rfl) (e.trans (by rw [h]; rfl)) ⟨by kernel_rfl, by kernel_rfl, by kernel_rfl, by kernel_rfl, trivial⟩ (by kernel_rfl) ⟨by kernel_rfl, by kernel_rfl, trivial⟩
theorem slD0_7_false_0 (z : Nat → Int) (L : List Int) (h : (!eqb (z 15) 0) = false) : TC Try.prog 68 (sq2 (sq2 in8)) (frL' (fe8 0 (.sl 1 0 L.length 1 true none) 7 0)) 2 (stL (s8' z L)) .normal (frL' (fo8 0 (.sl 1 0 L.length 1 true none) 7)) 2 (stL (s8' z L)) := by
  have e : (oSt (ev8 [(0, false), (1, false), (2, false), (3, false)] [] 2 (sq2 (sq2 in8)) (fe8 0 (.sl 1 0 L.length 1 true none) 7 0) (s8' z L))).ok = okT [(!eqb (z 15) 0) == false, (!eqb (z 15) 0) == false, (!eqb (z 15) 0) == false, (!eqb (z 15) 0) == false] true := by kernel_rfl
  exact tc8 (φ := [(0, false), (1, false), (2, false), (3, false)]) (nils := []) (by kernel_rfl) (e.trans (by rw [h]; rfl)) ⟨by kernel_rfl, by kernel_rfl, by kernel_rfl, by kernel_rfl, trivial⟩ (by kernel_rfl) ⟨by kernel_rfl, by kernel_rfl, trivial⟩
theorem slR0_7 (z : Nat → Int) (L : List Int) (hL : L.length < 65536) (hLe : L = resL z 0) : TC Try.prog 68 o8 (frL' (fo8 0 (.sl 1 0 L.length 1 true none) 7)) 2 (stL (s8' z L)) .normal (frL' (fo8 0 (.sl 1 0 L.length 1 true none) 8)) 2 (stL (s8' z L)) := by
  rw [o8_eq]
  have hr := c0_7 z
  rw [← hLe] at hr
  have hc := hr
  cases hz : eqb (z 15) 0 with
  | false => exact TC.seq (slA7 z 0 L ) (TC.seq (TC.block (TC.seq (slB7 z 0 L ) (TC.seq (slI7 z 0 L hL 0 hc) (slD0_7_true_0 z L (by rw [hz]; rfl)))) (.inl rfl)) (slE7 z 0 L ))
  | true => exact TC.seq (slA7 z 0 L ) (TC.seq (TC.block (TC.seq (slB7 z 0 L ) (TC.seq (slI7 z 0 L hL 0 hc) (slD0_7_false_0 z L (by rw [hz]; rfl)))) (.inl rfl)) (slE7 z 0 L ))
theorem slW0 (z : Nat → Int) (L : List Int) (hL : L.length < 65536) (hLe : L = resL z 0) : TC Try.prog 68 (.seq (.seq (sq1 (sq1 (sq2 out8))) (.block 0 (.loop o8))) (sq2 (sq2 out8))) (frL' [(1, .sc (.int .i64 0)), (2, .ptr 0 0), (5, (.sl 1 0 L.length 1 true none))]) 2 (stL (s8' z L)) .ret (frL' [(4, .sc (.bool true))]) 2 (stL (s8' z L)) :=
  TC.seq (TC.seq (slS z 0 L ) (TC.block (TC.loop (k := 9) (TR.more (slR0_0 z L hL hLe) (TR.more (slR0_1 z L hL hLe) (TR.more (slR0_2 z L hL hLe) (TR.more (slR0_3 z L hL hLe) (TR.more (slR0_4 z L hL hLe) (TR.more (slR0_5 z L hL hLe) (TR.more (slR0_6 z L hL hLe) (TR.more (slR0_7 z L hL hLe) (TR.out (slX z 0 L ) (by simp))))))))))) (.inr rfl))) (slZ z L )
theorem slD1_0_true_1 (z : Nat → Int) (L : List Int) (h : (!eqb (z 1) 0) = true) : TC Try.prog 68 (sq2 (sq2 in8)) (frL' (fe8 1 (.sl 1 0 L.length 1 true none) 0 1)) 2 (stL (s8' z L)) .normal (frL' (fo8 1 (.sl 1 0 L.length 1 true none) 0)) 2 (stL (s8' z L)) := by
  have e : (oSt (ev8 [(0, true), (1, true), (2, true), (3, true)] [] 2 (sq2 (sq2 in8)) (fe8 1 (.sl 1 0 L.length 1 true none) 0 1) (s8' z L))).ok = okT [(!eqb (z 1) 0) == true, (!eqb (z 1) 0) == true, (!eqb (z 1) 0) == true, (!eqb (z 1) 0) == true] true := by kernel_rfl
  exact tc8 (φ := [(0, true), (1, true), (2, true), (3, true)]) (nils := []) (by kernel_rfl) (e.trans (by rw [h]; rfl)) ⟨by kernel_rfl, by kernel_rfl, by kernel_rfl, by kernel_rfl, trivial⟩ (by kernel_rfl) ⟨by kernel_rfl, by kernel_rfl, trivial⟩
theorem slD1_0_false_0 (z : Nat → Int) (L : List Int) (h : (!eqb (z 1) 0) = false) : TC Try.prog 68 (sq2 (sq2 in8)) (frL' (fe8 1 (.sl 1 0 L.length 1 true none) 0 0)) 2 (stL (s8' z L)) .normal (frL' (fo8 1 (.sl 1 0 L.length 1 true none) 0)) 2 (stL (s8' z L)) := by
  have e : (oSt (ev8 [(0, false), (1, false), (2, false), (3, false)] [] 2 (sq2 (sq2 in8)) (fe8 1 (.sl 1 0 L.length 1 true none) 0 0) (s8' z L))).ok = okT [(!eqb (z 1) 0) == false, (!eqb (z 1) 0) == false, (!eqb (z 1) 0) == false, (!eqb (z 1) 0) == false] true := by kernel_rfl
  exact tc8 (φ := [(0, false), (1, false), (2, false), (3, false)]) (nils := []) (by kernel_rfl) (e.trans (by rw [h]; rfl)) ⟨by kernel_rfl, by kernel_rfl, by kernel_rfl, by kernel_rfl, trivial⟩ (by kernel_rfl) ⟨by kernel_rfl, by kernel_rfl, trivial⟩
theorem slD1_0_false_1 (z : Nat → Int) (L : List Int) (h : (!eqb (z 1) 0) = false) : TC Try.prog 68 (sq2 (sq2 in8)) (frL' (fe8 1 (.sl 1 0 L.length 1 true none) 0 1)) 2 (stL (s8' z L)) .normal (frL' (fo8 1 (.sl 1 0 L.length 1 true none) 0)) 2 (stL (s8' z L)) := by
  have e : (oSt (ev8 [(0, false), (1, false), (2, false), (3, false)] [] 2 (sq2 (sq2 in8)) (fe8 1 (.sl 1 0 L.length 1 true none) 0 1) (s8' z L))).ok = okT [(!eqb (z 1) 0) == false, (!eqb (z 1) 0) == false, (!eqb (z 1) 0) == false, (!eqb (z 1) 0) == false] true := by kernel_rfl
  exact tc8 (φ := [(0, false), (1, false), (2, false), (3, false)]) (nils := []) (by kernel_rfl) (e.trans (by rw [h]; rfl)) ⟨by kernel_rfl, by kernel_rfl, by kernel_rfl, by kernel_rfl, trivial⟩ (by kernel_rfl) ⟨by kernel_rfl, by kernel_rfl, trivial⟩
theorem slR1_0 (z : Nat → Int) (L : List Int) (hL : L.length < 65536) (hLe : L = resL z 1) : TC Try.prog 68 o8 (frL' (fo8 1 (.sl 1 0 L.length 1 true none) 0)) 2 (stL (s8' z L)) .normal (frL' (fo8 1 (.sl 1 0 L.length 1 true none) 1)) 2 (stL (s8' z L)) := by
  rw [o8_eq]
  have hr := c1_0 z
  rw [← hLe] at hr
  cases hz : eqb (z 1) 0 with
  | false =>
    have hc := hr.2 hz
    exact TC.seq (slA0 z 1 L ) (TC.seq (TC.block (TC.seq (slB0 z 1 L ) (TC.seq (slI0 z 1 L hL 1 hc) (slD1_0_true_1 z L (by rw [hz]; rfl)))) (.inl rfl)) (slE0 z 1 L ))
  | true =>
    rcases (show ucnt L 0 = 0 ∨ ucnt L 0 = 1 by omega) with hc | hc
    · exact TC.seq (slA0 z 1 L ) (TC.seq (TC.block (TC.seq (slB0 z 1 L ) (TC.seq (slI0 z 1 L hL 0 hc) (slD1_0_false_0 z L (by rw [hz]; rfl)))) (.inl rfl)) (slE0 z 1 L ))
    · exact TC.seq (slA0 z 1 L ) (TC.seq (TC.block (TC.seq (slB0 z 1 L ) (TC.seq (slI0 z 1 L hL 1 hc) (slD1_0_false_1 z L (by rw [hz]; rfl)))) (.inl rfl)) (slE0 z 1 L ))
theorem slD1_1_true_1 (z : Nat → Int) (L : List Int) (h : (!eqb (z 3) 0) = true) : TC Try.prog 68 (sq2 (sq2 in8)) (frL' (fe8 1 (.sl 1 0 L.length 1 true none) 1 1)) 2 (stL (s8' z L)) .normal (frL' (fo8 1 (.sl 1 0 L.length 1 true none) 1)) 2 (stL (s8' z L)) := by
  have e : (oSt (ev8 [(0, true), (1, true), (2, true), (3, true)] [] 2 (sq2 (sq2 in8)) (fe8 1 (.sl 1 0 L.length 1 true none) 1 1) (s8' z L))).ok = okT [(!eqb (z 3) 0) == true, (!eqb (z 3) 0) == true, (!eqb (z 3) 0) == true, (!eqb (z 3) 0) == true] true := by kernel_rfl
  exact tc8 (φ := [(0, true), (1, true), (2, true), (3, true)]) (nils := []) (by kernel_rfl) (e.trans (by rw [h]; rfl)) ⟨by kernel_rfl, by kernel_rfl, by kernel_rfl, by kernel_rfl, trivial⟩ (by kernel_rfl) ⟨by kernel_rfl, by kernel_rfl, trivial⟩
theorem slD1_1_false_0 (z : Nat → Int) (L : List Int) (h : (!eqb (z 3) 0) = false) : TC Try.prog 68 (sq2 (sq2 in8)) (frL' (fe8 1 (.sl 1 0 L.length 1 true none) 1 0)) 2 (stL (s8' z L)) .normal (frL' (fo8 1 (.sl 1 0 L.length 1 true none) 1)) 2 (stL (s8' z L)) := by
  have e : (oSt (ev8 [(0, false), (1, false), (2, false), (3, false)] [] 2 (sq2 (sq2 in8)) (fe8 1 (.sl 1 0 L.length 1 true none) 1 0) (s8' z L))).ok = okT [(!eqb (z 3) 0) == false, (!eqb (z 3) 0) == false, (!eqb (z 3) 0) == false, (!eqb (z 3) 0) == false] true := by kernel_rfl
  exact tc8 (φ := [(0, false), (1, false), (2, false), (3, false)]) (nils := []) (by kernel_rfl) (e.trans (by rw [h]; rfl)) ⟨by kernel_rfl, by kernel_rfl, by kernel_rfl, by kernel_rfl, trivial⟩ (by kernel_rfl) ⟨by kernel_rfl, by kernel_rfl, trivial⟩
theorem slD1_1_false_1 (z : Nat → Int) (L : List Int) (h : (!eqb (z 3) 0) = false) : TC Try.prog 68 (sq2 (sq2 in8)) (frL' (fe8 1 (.sl 1 0 L.length 1 true none) 1 1)) 2 (stL (s8' z L)) .normal (frL' (fo8 1 (.sl 1 0 L.length 1 true none) 1)) 2 (stL (s8' z L)) := by
  have e : (oSt (ev8 [(0, false), (1, false), (2, false), (3, false)] [] 2 (sq2 (sq2 in8)) (fe8 1 (.sl 1 0 L.length 1 true none) 1 1) (s8' z L))).ok = okT [(!eqb (z 3) 0) == false, (!eqb (z 3) 0) == false, (!eqb (z 3) 0) == false, (!eqb (z 3) 0) == false] true := by kernel_rfl
  exact tc8 (φ := [(0, false), (1, false), (2, false), (3, false)]) (nils := []) (by kernel_rfl) (e.trans (by rw [h]; rfl)) ⟨by kernel_rfl, by kernel_rfl, by kernel_rfl, by kernel_rfl, trivial⟩ (by kernel_rfl) ⟨by kernel_rfl, by kernel_rfl, trivial⟩
theorem slR1_1 (z : Nat → Int) (L : List Int) (hL : L.length < 65536) (hLe : L = resL z 1) : TC Try.prog 68 o8 (frL' (fo8 1 (.sl 1 0 L.length 1 true none) 1)) 2 (stL (s8' z L)) .normal (frL' (fo8 1 (.sl 1 0 L.length 1 true none) 2)) 2 (stL (s8' z L)) := by
  rw [o8_eq]
  have hr := c1_1 z
  rw [← hLe] at hr
  cases hz : eqb (z 3) 0 with
  | false =>
    have hc := hr.2 hz
    exact TC.seq (slA1 z 1 L ) (TC.seq (TC.block (TC.seq (slB1 z 1 L ) (TC.seq (slI1 z 1 L hL 1 hc) (slD1_1_true_1 z L (by rw [hz]; rfl)))) (.inl rfl)) (slE1 z 1 L ))
  | true =>
    rcases (show ucnt L 1 = 0 ∨ ucnt L 1 = 1 by omega) with hc | hc
    · exact TC.seq (slA1 z 1 L ) (TC.seq (TC.block (TC.seq (slB1 z 1 L ) (TC.seq (slI1 z 1 L hL 0 hc) (slD1_1_false_0 z L (by rw [hz]; rfl)))) (.inl rfl)) (slE1 z 1 L ))
    · exact TC.seq (slA1 z 1 L ) (TC.seq (TC.block (TC.seq (slB1 z 1 L ) (TC.seq (slI1 z 1 L hL 1 hc) (slD1_1_false_1 z L (by rw [hz]; rfl)))) (.inl rfl)) (slE1 z 1 L ))
theorem slD1_2_true_0 (z : Nat → Int) (L : List Int) (h : (!eqb (z 5) 0) = true) : TC Try.prog 68 (sq2 (sq2 in8)) (frL' (fe8 1 (.sl 1 0 L.length 1 true none) 2 0)) 2 (stL (s8' z L)) .normal (frL' (fo8 1 (.sl 1 0 L.length 1 true none) 2)) 2 (stL (s8' z L)) := by
  have e : (oSt (ev8 [(0, true), (1, true), (2, true), (3, true)] [] 2 (sq2 (sq2 in8)) (fe8 1 (.sl 1 0 L.length 1 true none) 2 0) (s8' z L))).ok = okT [(!eqb (z 5) 0) == true, (!eqb (z 5) 0) == true, (!eqb (z 5) 0) == true, (!eqb (z 5) 0) == true] true := by kernel_rfl
  exact tc8 (φ := [(0, true), (1, true), (2, true), (3, true)]) (nils := []) (by kernel_rfl) (e.trans (by rw [h]; rfl)) ⟨by kernel_rfl, by kernel_rfl, by kernel_rfl, by kernel_rfl, trivial⟩ (by kernel_rfl) ⟨by kernel_rfl, by kernel_rfl, trivial⟩
theorem slD1_2_false_0 (z : Nat → Int) (L : List Int) (h : (!eqb (z 5) 0) = false) : TC Try.prog 68 (sq2 (sq2 in8)) (frL' (fe8 1 (.sl 1 0 L.length 1 true none) 2 0)) 2 (stL (s8' z L)) .normal (frL' (fo8 1 (.sl 1 0 L.length 1 true none) 2)) 2 (stL (s8' z L)) := by
  have e : (oSt (ev8 [(0, false), (1, false), (2, false), (3, false)] [] 2 (sq2 (sq2 in8)) (fe8 1 (.sl 1 0 L.length 1 true none) 2 0) (s8' z L))).ok = okT [(!eqb (z 5) 0) == false, (!eqb (z 5) 0) == false, (!eqb (z 5) 0) == false, (!eqb (z 5) 0) == false] true := by kernel_rfl
  exact tc8 (φ := [(0, false), (1, false), (2, false), (3, false)]) (nils := []) (by kernel_rfl) (e.trans (by rw [h]; rfl)) ⟨by kernel_rfl, by kernel_rfl, by kernel_rfl, by kernel_rfl, trivial⟩ (by kernel_rfl) ⟨by kernel_rfl, by kernel_rfl, trivial⟩
theorem slR1_2 (z : Nat → Int) (L : List Int) (hL : L.length < 65536) (hLe : L = resL z 1) : TC Try.prog 68 o8 (frL' (fo8 1 (.sl 1 0 L.length 1 true none) 2)) 2 (stL (s8' z L)) .normal (frL' (fo8 1 (.sl 1 0 L.length 1 true none) 3)) 2 (stL (s8' z L)) := by
  rw [o8_eq]
  have hr := c1_2 z
  rw [← hLe] at hr
  have hc := hr
  cases hz : eqb (z 5) 0 with
  | false => exact TC.seq (slA2 z 1 L ) (TC.seq (TC.block (TC.seq (slB2 z 1 L ) (TC.seq (slI2 z 1 L hL 0 hc) (slD1_2_true_0 z L (by rw [hz]; rfl)))) (.inl rfl)) (slE2 z 1 L ))
  | true => exact TC.seq (slA2 z 1 L ) (TC.seq (TC.block (TC.seq (slB2 z 1 L ) (TC.seq (slI2 z 1 L hL 0 hc) (slD1_2_false_0 z L (by rw [hz]; rfl)))) (.inl rfl)) (slE2 z 1 L ))
theorem slD1_3_true_0 (z : Nat → Int) (L : List Int) (h : (!eqb (z 7) 0) = true) : TC Try.prog 68 (sq2 (sq2 in8)) (frL' (fe8 1 (.sl 1 0 L.length 1 true none) 3 0)) 2 (stL (s8' z L)) .normal (frL' (fo8 1 (.sl 1 0 L.length 1 true none) 3)) 2 (stL (s8' z L)) := by
  have e : (oSt (ev8 [(0, true), (1, true), (2, true), (3, true)] [] 2 (sq2 (sq2 in8)) (fe8 1 (.sl 1 0 L.length 1 true none) 3 0) (s8' z L))).ok = okT [(!eqb (z 7) 0) == true, (!eqb (z 7) 0) == true, (!eqb (z 7) 0) == true, (!eqb (z 7) 0) == true] true := by kernel_rfl
  exact tc8 (φ := [(0, true), (1, true), (2, true), (3, true)]) (nils := []) (by kernel_rfl) (e.trans (by rw [h]; rfl)) ⟨by kernel_rfl, by kernel_rfl, by kernel_rfl, by kernel_rfl, trivial⟩ (by kernel_rfl) ⟨by kernel_rfl, by kernel_rfl, trivial⟩
theorem slD1_3_false_0 (z : Nat → Int) (L : List Int) (h : (!eqb (z 7) 0) = false) : TC Try.prog 68 (sq2 (sq2 in8)) (frL' (fe8 1 (.sl 1 0 L.length 1 true none) 3 0)) 2 (stL (s8' z L)) .normal (frL' (fo8 1 (.sl 1 0 L.length 1 true none) 3)) 2 (stL (s8' z L)) := by
  have e : (oSt (ev8 [(0, false), (1, false), (2, false), (3, false)] [] 2 (sq2 (sq2 in8)) (fe8 1 (.sl 1 0 L.length 1 true none) 3 0) (s8' z L))).ok = okT [(!eqb (z 7) 0) == false, (!eqb (z 7) 0) == false, (!eqb (z 7) 0) == false, (!eqb (z 7) 0) == false] true := by kernel_rfl
  exact tc8 (φ := [(0, false), (1, false), (2, false), (3, false)]) (nils := []) (by kernel_rfl) (e.trans (by rw [h]; rfl)) ⟨by kernel_rfl, by kernel_rfl, by kernel_rfl, by kernel_rfl, trivial⟩ (by kernel_rfl) ⟨by kernel_rfl, by kernel_rfl, trivial⟩
theorem slR1_3 (z : Nat → Int) (L : List Int) (hL : L.length < 65536) (hLe : L = resL z 1) : TC Try.prog 68 o8 (frL' (fo8 1 (.sl 1 0 L.length 1 true none) 3)) 2 (stL (s8' z L)) .normal (frL' (fo8 1 (.sl 1 0 L.length 1 true none) 4)) 2 (stL (s8' z L)) := by
  rw [o8_eq]
  have hr := c1_3 z
  rw [← hLe] at hr
  have hc := hr
  cases hz : eqb (z 7) 0 with
  | false => exact TC.seq (slA3 z 1 L ) (TC.seq (TC.block (TC.seq (slB3 z 1 L ) (TC.seq (slI3 z 1 L hL 0 hc) (slD1_3_true_0 z L (by rw [hz]; rfl)))) (.inl rfl)) (slE3 z 1 L ))
  | true => exact TC.seq (slA3 z 1 L ) (TC.seq (TC.block (TC.seq (slB3 z 1 L ) (TC.seq (slI3 z 1 L hL 0 hc) (slD1_3_false_0 z L (by rw [hz]; rfl)))) (.inl rfl)) (slE3 z 1 L ))
theorem slD1_4_true_0 (z : Nat → Int) (L : List Int) (h : (!eqb (z 9) 0) = true) : TC Try.prog 68 (sq2 (sq2 in8)) (frL' (fe8 1 (.sl 1 0 L.length 1 true none) 4 0)) 2 (stL (s8' z L)) .normal (frL' (fo8 1 (.sl 1 0 L.length 1 true none) 4)) 2 (stL (s8' z L)) := by
  have e : (oSt (ev8 [(0, true), (1, true), (2, true), (3, true)] [] 2 (sq2 (sq2 in8)) (fe8 1 (.sl 1 0 L.length 1 true none) 4 0) (s8' z L))).ok = okT [(!eqb (z 9) 0) == true, (!eqb (z 9) 0) == true, (!eqb (z 9) 0) == true, (!eqb (z 9) 0) == true] true := by kernel_rfl
  exact tc8 (φ := [(0, true), (1, true), (2, true), (3, true)]) (nils := []) (by kernel_rfl) (e.trans (by rw [h]; rfl)) ⟨by kernel_rfl, by kernel_rfl, by kernel_rfl, by kernel_rfl, trivial⟩ (by kernel_rfl) ⟨by kernel_rfl, by kernel_rfl, trivial⟩
theorem slD1_4_false_0 (z : Nat → Int) (L : List Int) (h : (!eqb (z 9) 0) = false) : TC Try.prog 68 (sq2 (sq2 in8)) (frL' (fe8 1 (.sl 1 0 L.length 1 true none) 4 0)) 2 (stL (s8' z L)) .normal (frL' (fo8 1 (.sl 1 0 L.length 1 true none) 4)) 2 (stL (s8' z L)) := by
  have e : (oSt (ev8 [(0, false), (1, false), (2, false), (3, false)] [] 2 (sq2 (sq2 in8)) (fe8 1 (.sl 1 0 L.length 1 true none) 4 0) (s8' z L))).ok = okT [(!eqb (z 9) 0) == false, (!eqb (z 9) 0) == false, (!eqb (z 9) 0) == false, (!eqb (z 9) 0) == false] true := by kernel_rfl
  exact tc8 (φ := [(0, false), (1, false), (2, false), (3, false)]) (nils := []) (by kernel_rfl) (e.trans (by rw [h]; rfl)) ⟨by kernel_rfl, by kernel_rfl, by kernel_rfl, by kernel_rfl, trivial⟩ (by kernel_rfl) ⟨by kernel_rfl, by kernel_rfl, trivial⟩
theorem slR1_4 (z : Nat → Int) (L : List Int) (hL : L.length < 65536) (hLe : L = resL z 1) : TC Try.prog 68 o8 (frL' (fo8 1 (.sl 1 0 L.length 1 true none) 4)) 2 (stL (s8' z L)) .normal (frL' (fo8 1 (.sl 1 0 L.length 1 true none) 5)) 2 (stL (s8' z L)) := by
  rw [o8_eq]
  have hr := c1_4 z
  rw [← hLe] at hr
  have hc := hr
  cases hz : eqb (z 9) 0 with
  | false => exact TC.seq (slA4 z 1 L ) (TC.seq (TC.block (TC.seq (slB4 z 1 L ) (TC.seq (slI4 z 1 L hL 0 hc) (slD1_4_true_0 z L (by rw [hz]; rfl)))) (.inl rfl)) (slE4 z 1 L ))
  | true => exact TC.seq (slA4 z 1 L ) (TC.seq (TC.block (TC.seq (slB4 z 1 L ) (TC.seq (slI4 z 1 L hL 0 hc) (slD1_4_false_0 z L (by rw [hz]; rfl)))) (.inl rfl)) (slE4 z 1 L ))
theorem slD1_5_true_0 (z : Nat → Int) (L : List Int) (h : (!eqb (z 11) 0) = true) : TC Try.prog 68 (sq2 (sq2 in8)) (frL' (fe8 1 (.sl 1 0 L.length 1 true none) 5 0)) 2 (stL (s8' z L)) .normal (frL' (fo8 1 (.sl 1 0 L.length 1 true none) 5)) 2 (stL (s8' z L)) := by
  have e : (oSt (ev8 [(0, true), (1, true), (2, true), (3, true)] [] 2 (sq2 (sq2 in8)) (fe8 1 (.sl 1 0 L.length 1 true none) 5 0) (s8' z L))).ok = okT [(!eqb (z 11) 0) == true, (!eqb (z 11) 0) == true, (!eqb (z 11) 0) == true, (!eqb (z 11) 0) == true] true := by kernel_rfl
  exact tc8 (φ := [(0, true), (1, true), (2, true), (3, true)]) (nils := []) (by kernel_rfl) (e.trans (by rw [h]; rfl)) ⟨by kernel_rfl, by kernel_rfl, by kernel_rfl, by kernel_rfl, trivial⟩ (by kernel_rfl) ⟨by kernel_rfl, by kernel_rfl, trivial⟩
theorem slD1_5_false_0 (z : Nat → Int) (L : List Int) (h : (!eqb (z 11) 0) = false) : TC Try.prog 68 (sq2 (sq2 in8)) (frL' (fe8 1 (.sl 1 0 L.length 1 true none) 5 0)) 2 (stL (s8' z L)) .normal (frL' (fo8 1 (.sl 1 0 L.length 1 true none) 5)) 2 (stL (s8' z L)) := by
  have e : (oSt (ev8 [(0, false), (1, false), (2, false), (3, false)] [] 2 (sq2 (sq2 in8)) (fe8 1 (.sl 1 0 L.length 1 true none) 5 0) (s8' z L))).ok = okT [(!eqb (z 11) 0) == false, (!eqb (z 11) 0) == false, (!eqb (z 11) 0) == false, (!eqb (z 11) 0) == false] true := by kernel_rfl
  exact tc8 (φ := [(0, false), (1, false), (2, false), (3, false)]) (nils := []) (by kernel_rfl) (e.trans (by rw [h]; rfl)) ⟨by kernel_rfl, by kernel_rfl, by kernel_rfl, by kernel_rfl, trivial⟩ (by kernel_rfl) ⟨by kernel_rfl, by kernel_rfl, trivial⟩
theorem slR1_5 (z : Nat → Int) (L : List Int) (hL : L.length < 65536) (hLe : L = resL z 1) : TC Try.prog 68 o8 (frL' (fo8 1 (.sl 1 0 L.length 1 true none) 5)) 2 (stL (s8' z L)) .normal (frL' (fo8 1 (.sl 1 0 L.length 1 true none) 6)) 2 (stL (s8' z L)) := by
  rw [o8_eq]
  have hr := c1_5 z
  rw [← hLe] at hr
  have hc := hr
  cases hz : eqb (z 11) 0 with
  | false => exact TC.seq (slA5 z 1 L ) (TC.seq (TC.block (TC.seq (slB5 z 1 L ) (TC.seq (slI5 z 1 L hL 0 hc) (slD1_5_true_0 z L (by rw [hz]; rfl)))) (.inl rfl)) (slE5 z 1 L ))
  | true => exact TC.seq (slA5 z 1 L ) (TC.seq (TC.block (TC.seq (slB5 z 1 L ) (TC.seq (slI5 z 1 L hL 0 hc) (slD1_5_false_0 z L (by rw [hz]; rfl)))) (.inl rfl)) (slE5 z 1 L ))
theorem slD1_6_true_0 (z : Nat → Int) (L : List Int) (h : (!eqb (z 13) 0) = true) : TC Try.prog 68 (sq2 (sq2 in8)) (frL' (fe8 1 (.sl 1 0 L.length 1 true none) 6 0)) 2 (stL (s8' z L)) .normal (frL' (fo8 1 (.sl 1 0 L.length 1 true none) 6)) 2 (stL (s8' z L)) := by
  have e : (oSt (ev8 [(0, true), (1, true), (2, true), (3, true)] [] 2 (sq2 (sq2 in8)) (fe8 1 (.sl 1 0 L.length 1 true none) 6 0) (s8' z L))).ok = okT [(!eqb (z 13) 0) == true, (!eqb (z 13) 0) == true, (!eqb (z 13) 0) == true, (!eqb (z 13) 0) == true] true := by kernel_rfl
  exact tc8 (φ := [(0, true), (1, true), (2, true), (3, true)]) (nils := []) (by kernel_rfl) (e.trans (by rw [h]; rfl)) ⟨by kernel_rfl, by kernel_rfl, by kernel_rfl, by kernel_rfl, trivial⟩ (by kernel_rfl) ⟨by kernel_rfl, by kernel_rfl, trivial⟩
theorem slD1_6_false_0 (z : Nat → Int) (L : List Int) (h : (!eqb (z 13) 0) = false) : TC Try.prog 68 (sq2 (sq2 in8)) (frL' (fe8 1 (.sl 1 0 L.length 1 true none) 6 0)) 2 (stL (s8' z L)) .normal (frL' (fo8 1 (.sl 1 0 L.length 1 true none) 6)) 2 (stL (s8' z L)) := by
  have e : (oSt (ev8 [(0, false), (1, false), (2, false), (3, false)] [] 2 (sq2 (sq2 in8)) (fe8 1 (.sl 1 0 L.length 1 true none) 6 0) (s8' z L))).ok = okT [(!eqb (z 13) 0) == false, (!eqb (z 13) 0) == false, (!eqb (z 13) 0) == false, (!eqb (z 13) 0) == false] true := by kernel_rfl
  exact tc8 (φ := [(0, false), (1, false), (2, false), (3, false)]) (nils := []) (by kernel_rfl) (e.trans (by rw [h]; rfl)) ⟨by kernel_rfl, by kernel_rfl, by kernel_rfl, by kernel_rfl, trivial⟩ (by kernel_rfl) ⟨by kernel_rfl, by kernel_rfl, trivial⟩
theorem slR1_6 (z : Nat → Int) (L : List Int) (hL : L.length < 65536) (hLe : L = resL z 1) : TC Try.prog 68 o8 (frL' (fo8 1 (.sl 1 0 L.length 1 true none) 6)) 2 (stL (s8' z L)) .normal (frL' (fo8 1 (.sl 1 0 L.length 1 true none) 7)) 2 (stL (s8' z L)) := by
  rw [o8_eq]
  have hr := c1_6 z
  rw [← hLe] at hr
  have hc := hr
  cases hz : eqb (z 13) 0 with
  | false => exact TC.seq (slA6 z 1 L ) (TC.seq (TC.block (TC.seq (slB6 z 1 L ) (TC.seq (slI6 z 1 L hL 0 hc) (slD1_6_true_0 z L (by rw [hz]; rfl)))) (.inl rfl)) (slE6 z 1 L ))
  | true => exact TC.seq (slA6 z 1 L ) (TC.seq (TC.block (TC.seq (slB6 z 1 L ) (TC.seq (slI6 z 1 L hL 0 hc) (slD1_6_false_0 z L (by rw [hz]; rfl)))) (.inl rfl)) (slE6 z 1 L ))
theorem slD1_7_true_0 (z : Nat → Int) (L : List Int) (h : (!eqb (z 15) 0) = true) : TC Try.prog 68 (sq2 (sq2 in8)) (frL' (fe8 1 (.sl 1 0 L.length 1 true none) 7 0)) 2 (stL (s8' z L)) .normal (frL' (fo8 1 (.sl 1 0 L.length 1 true none) 7)) 2 (stL (s8' z L)) := by
  have e : (oSt (ev8 [(0, true), (1, true), (2, true), (3, true)] [] 2 (sq2 (sq2 in8)) (fe8 1 (.sl 1 0 L.length 1 true none) 7 0) (s8' z L))).ok = okT [(!eqb (z 15) 0) == true, (!eqb (z 15) 0) == true, (!eqb (z 15) 0) == true, (!eqb (z 15) 0) == true] true := by kernel_rfl
  exact tc8 (φ := [(0, true), (1, true), (2, true), (3, true)]) (nils := []) (by kernel_rfl) (e.trans (by rw [h]; rfl)) ⟨by kernel_rfl, by kernel_rfl, by kernel_rfl, by kernel_rfl, trivial⟩ (by kernel_rfl) ⟨by kernel_rfl, by kernel_rfl, trivial⟩
theorem slD1_7_false_0 (z : Nat → Int) (L : List Int) (h : (!eqb (z 15) 0) = false) : TC Try.prog 68 (sq2 (sq2 in8)) (frL' (fe8 1 (.sl 1 0 L.length 1 true none) 7 0)) 2 (stL (s8' z L)) .normal (frL' (fo8 1 (.sl 1 0 L.length 1 true none) 7)) 2 (stL (s8' z L)) := by
  have e : (oSt (ev8 [(0, false), (1, false), (2, false), (3, false)] [] 2 (sq2 (sq2 in8)) (fe8 1 (.sl 1 0 L.length 1 true none) 7 0) (s8' z L))).ok = okT [(!eqb (z 15) 0) == false, (!eqb (z 15) 0) == false, (!eqb (z 15) 0) == false, (!eqb (z 15) 0) == false] true := by kernel_rfl
  exact tc8 (φ := [(0, false), (1, false), (2, false), (3, false)]) (nils := []) (by kernel_rfl) (e.trans (by rw [h]; rfl)) ⟨by kernel_rfl, by kernel_rfl, by kernel_rfl, by kernel_rfl, trivial⟩ (by kernel_rfl) ⟨by kernel_rfl, by kernel_rfl, trivial⟩
theorem slR1_7 (z : Nat → Int) (L : List Int) (hL : L.length < 65536) (hLe : L = resL z 1) : TC Try.prog 68 o8 (frL' (fo8 1 (.sl 1 0 L.length 1 true none) 7)) 2 (stL (s8' z L)) .normal (frL' (fo8 1 (.sl 1 0 L.length 1 true none) 8)) 2 (stL (s8' z L)) := by
  rw [o8_eq]
  have hr := c1_7 z
  rw [← hLe] at hr
  have hc := hr
  cases hz : eqb (z 15) 0 with
  | false => exact TC.seq (slA7 z 1 L ) (TC.seq (TC.block (TC.seq (slB7 z 1 L ) (TC.seq (slI7 z 1 L hL 0 hc) (slD1_7_true_0 z L (by rw [hz]; rfl)))) (.inl rfl)) (slE7 z 1 L ))
  | true => exact TC.seq (slA7 z 1 L ) (TC.seq (TC.block (TC.seq (slB7 z 1 L ) (TC.seq (slI7 z 1 L hL 0 hc) (slD1_7_false_0 z L (by rw [hz]; rfl)))) (.inl rfl)) (slE7 z 1 L ))
theorem slW1 (z : Nat → Int) (L : List Int) (hL : L.length < 65536) (hLe : L = resL z 1) : TC Try.prog 68 (.seq (.seq (sq1 (sq1 (sq2 out8))) (.block 0 (.loop o8))) (sq2 (sq2 out8))) (frL' [(1, .sc (.int .i64 1)), (2, .ptr 0 0), (5, (.sl 1 0 L.length 1 true none))]) 2 (stL (s8' z L)) .ret (frL' [(4, .sc (.bool true))]) 2 (stL (s8' z L)) :=
  TC.seq (TC.seq (slS z 1 L ) (TC.block (TC.loop (k := 9) (TR.more (slR1_0 z L hL hLe) (TR.more (slR1_1 z L hL hLe) (TR.more (slR1_2 z L hL hLe) (TR.more (slR1_3 z L hL hLe) (TR.more (slR1_4 z L hL hLe) (TR.more (slR1_5 z L hL hLe) (TR.more (slR1_6 z L hL hLe) (TR.more (slR1_7 z L hL hLe) (TR.out (slX z 1 L ) (by simp))))))))))) (.inr rfl))) (slZ z L )
theorem slD2_0_true_0 (z : Nat → Int) (L : List Int) (h : (!eqb (z 1) 0) = true) : TC Try.prog 68 (sq2 (sq2 in8)) (frL' (fe8 2 (.sl 1 0 L.length 1 true none) 0 0)) 2 (stL (s8' z L)) .normal (frL' (fo8 2 (.sl 1 0 L.length 1 true none) 0)) 2 (stL (s8' z L)) := by
  have e : (oSt (ev8 [(0, true), (1, true), (2, true), (3, true)] [] 2 (sq2 (sq2 in8)) (fe8 2 (.sl 1 0 L.length 1 true none) 0 0) (s8' z L))).ok = okT [(!eqb (z 1) 0) == true, (!eqb (z 1) 0) == true, (!eqb (z 1) 0) == true, (!eqb (z 1) 0) == true] true := by kernel_rfl
  exact tc8 (φ := [(0, true), (1, true), (2, true), (3, true)]) (nils := []) (by kernel_rfl) (e.trans (by rw [h]; rfl)) ⟨by kernel_rfl, by kernel_rfl, by kernel_rfl, by kernel_rfl, trivial⟩ (by kernel_rfl) ⟨by kernel_rfl, by kernel_rfl, trivial⟩
theorem slD2_0_false_0 (z : Nat → Int) (L : List Int) (h : (!eqb (z 1) 0) = false) : TC Try.prog 68 (sq2 (sq2 in8)) (frL' (fe8 2 (.sl 1 0 L.length 1 true none) 0 0)) 2 (stL (s8' z L)) .normal (frL' (fo8 2 (.sl 1 0 L.length 1 true none) 0)) 2 (stL (s8' z L)) := by
  have e : (oSt (ev8 [(0, false), (1, false), (2, false), (3, false)] [] 2 (sq2 (sq2 in8)) (fe8 2 (.sl 1 0 L.length 1 true none) 0 0) (s8' z L))).ok = okT [(!eqb (z 1) 0) == false, (!eqb (z 1) 0) == false, (!eqb (z 1) 0) == false, (!eqb (z 1) 0) == false] true := by kernel_rfl
  exact tc8 (φ := [(0, false), (1, false), (2, false), (3, false)]) (nils := []) (by kernel_rfl) (e.trans (by rw [h]; rfl)) ⟨by kernel_rfl, by kernel_rfl, by kernel_rfl, by kernel_rfl, trivial⟩ (by kernel_rfl) ⟨by kernel_rfl, by kernel_rfl, trivial⟩
theorem slR2_0 (z : Nat → Int) (L : List Int) (hL : L.length < 65536) (hLe : L = resL z 2) : TC Try.prog 68 o8 (frL' (fo8 2 (.sl 1 0 L.length 1 true none) 0)) 2 (stL (s8' z L)) .normal (frL' (fo8 2 (.sl 1 0 L.length 1 true none) 1)) 2 (stL (s8' z L)) := by
  rw [o8_eq]
  have hr := c2_0 z
  rw [← hLe] at hr
  have hc := hr
  cases hz : eqb (z 1) 0 with
  | false => exact TC.seq (slA0 z 2 L ) (TC.seq (TC.block (TC.seq (slB0 z 2 L ) (TC.seq (slI0 z 2 L hL 0 hc) (slD2_0_true_0 z L (by rw [hz]; rfl)))) (.inl rfl)) (slE0 z 2 L ))
  | true => exact TC.seq (slA0 z 2 L ) (TC.seq (TC.block (TC.seq (slB0 z 2 L ) (TC.seq (slI0 z 2 L hL 0 hc) (slD2_0_false_0 z L (by rw [hz]; rfl)))) (.inl rfl)) (slE0 z 2 L ))
theorem slD2_1_true_1 (z : Nat → Int) (L : List Int) (h : (!eqb (z 3) 0) = true) : TC Try.prog 68 (sq2 (sq2 in8)) (frL' (fe8 2 (.sl 1 0 L.length 1 true none) 1 1)) 2 (stL (s8' z L)) .normal (frL' (fo8 2 (.sl 1 0 L.length 1 true none) 1)) 2 (stL (s8' z L)) := by
  have e : (oSt (ev8 [(0, true), (1, true), (2, true), (3, true)] [] 2 (sq2 (sq2 in8)) (fe8 2 (.sl 1 0 L.length 1 true none) 1 1) (s8' z L))).ok = okT [(!eqb (z 3) 0) == true, (!eqb (z 3) 0) == true, (!eqb (z 3) 0) == true, (!eqb (z 3) 0) == true] true := by kernel_rfl
  exact tc8 (φ := [(0, true), (1, true), (2, true), (3, true)]) (nils := []) (by kernel_rfl) (e.trans (by rw [h]; rfl)) ⟨by kernel_rfl, by kernel_rfl, by kernel_rfl, by kernel_rfl, trivial⟩ (by kernel_rfl) ⟨by kernel_rfl, by kernel_rfl, trivial⟩
theorem slD2_1_false_0 (z : Nat → Int) (L : List Int) (h : (!eqb (z 3) 0) = false) : TC Try.prog 68 (sq2 (sq2 in8)) (frL' (fe8 2 (.sl 1 0 L.length 1 true none) 1 0)) 2 (stL (s8' z L)) .normal (frL' (fo8 2 (.sl 1 0 L.length 1 true none) 1)) 2 (stL (s8' z L)) := by
  have e : (oSt (ev8 [(0, false), (1, false), (2, false), (3, false)] [] 2 (sq2 (sq2 in8)) (fe8 2 (.sl 1 0 L.length 1 true none) 1 0) (s8' z L))).ok = okT [(!eqb (z 3) 0) == false, (!eqb (z 3) 0) == false, (!eqb (z 3) 0) == false, (!eqb (z 3) 0) == false] true := by kernel_rfl
  exact tc8 (φ := [(0, false), (1, false), (2, false), (3, false)]) (nils := []) (by kernel_rfl) (e.trans (by rw [h]; rfl)) ⟨by kernel_rfl, by kernel_rfl, by kernel_rfl, by kernel_rfl, trivial⟩ (by kernel_rfl) ⟨by kernel_rfl, by kernel_rfl, trivial⟩
theorem slD2_1_false_1 (z : Nat → Int) (L : List Int) (h : (!eqb (z 3) 0) = false) : TC Try.prog 68 (sq2 (sq2 in8)) (frL' (fe8 2 (.sl 1 0 L.length 1 true none) 1 1)) 2 (stL (s8' z L)) .normal (frL' (fo8 2 (.sl 1 0 L.length 1 true none) 1)) 2 (stL (s8' z L)) := by
  have e : (oSt (ev8 [(0, false), (1, false), (2, false), (3, false)] [] 2 (sq2 (sq2 in8)) (fe8 2 (.sl 1 0 L.length 1 true none) 1 1) (s8' z L))).ok = okT [(!eqb (z 3) 0) == false, (!eqb (z 3) 0) == false, (!eqb (z 3) 0) == false, (!eqb (z 3) 0) == false] true := by kernel_rfl
  exact tc8 (φ := [(0, false), (1, false), (2, false), (3, false)]) (nils := []) (by kernel_rfl) (e.trans (by rw [h]; rfl)) ⟨by kernel_rfl, by kernel_rfl, by kernel_rfl, by kernel_rfl, trivial⟩ (by kernel_rfl) ⟨by kernel_rfl, by kernel_rfl, trivial⟩
theorem slR2_1 (z : Nat → Int) (L : List Int) (hL : L.length < 65536) (hLe : L = resL z 2) : TC Try.prog 68 o8 (frL' (fo8 2 (.sl 1 0 L.length 1 true none) 1)) 2 (stL (s8' z L)) .normal (frL' (fo8 2 (.sl 1 0 L.length 1 true none) 2)) 2 (stL (s8' z L)) := by
  rw [o8_eq]
  have hr := c2_1 z
  rw [← hLe] at hr
  cases hz : eqb (z 3) 0 with
  | false =>
    have hc := hr.2 hz
    exact TC.seq (slA1 z 2 L ) (TC.seq (TC.block (TC.seq (slB1 z 2 L ) (TC.seq (slI1 z 2 L hL 1 hc) (slD2_1_true_1 z L (by rw [hz]; rfl)))) (.inl rfl)) (slE1 z 2 L ))
  | true =>
    rcases (show ucnt L 1 = 0 ∨ ucnt L 1 = 1 by omega) with hc | hc
    · exact TC.seq (slA1 z 2 L ) (TC.seq (TC.block (TC.seq (slB1 z 2 L ) (TC.seq (slI1 z 2 L hL 0 hc) (slD2_1_false_0 z L (by rw [hz]; rfl)))) (.inl rfl)) (slE1 z 2 L ))
    · exact TC.seq (slA1 z 2 L ) (TC.seq (TC.block (TC.seq (slB1 z 2 L ) (TC.seq (slI1 z 2 L hL 1 hc) (slD2_1_false_1 z L (by rw [hz]; rfl)))) (.inl rfl)) (slE1 z 2 L ))
theorem slD2_2_true_0 (z : Nat → Int) (L : List Int) (h : (!eqb (z 5) 0) = true) : TC Try.prog 68 (sq2 (sq2 in8)) (frL' (fe8 2 (.sl 1 0 L.length 1 true none) 2 0)) 2 (stL (s8' z L)) .normal (frL' (fo8 2 (.sl 1 0 L.length 1 true none) 2)) 2 (stL (s8' z L)) := by
  have e : (oSt (ev8 [(0, true), (1, true), (2, true), (3, true)] [] 2 (sq2 (sq2 in8)) (fe8 2 (.sl 1 0 L.length 1 true none) 2 0) (s8' z L))).ok = okT [(!eqb (z 5) 0) == true, (!eqb (z 5) 0) == true, (!eqb (z 5) 0) == true, (!eqb (z 5) 0) == true] true := by kernel_rfl
  exact tc8 (φ := [(0, true), (1, true), (2, true), (3, true)]) (nils := []) (by kernel_rfl) (e.trans (by rw [h]; rfl)) ⟨by kernel_rfl, by kernel_rfl, by kernel_rfl, by kernel_rfl, trivial⟩ (by kernel_rfl) ⟨by kernel_rfl, by kernel_rfl, trivial⟩
theorem slD2_2_false_0 (z : Nat → Int) (L : List Int) (h : (!eqb (z 5) 0) = false) : TC Try.prog 68 (sq2 (sq2 in8)) (frL' (fe8 2 (.sl 1 0 L.length 1 true none) 2 0)) 2 (stL (s8' z L)) .normal (frL' (fo8 2 (.sl 1 0 L.length 1 true none) 2)) 2 (stL (s8' z L)) := by
  have e : (oSt (ev8 [(0, false), (1, false), (2, false), (3, false)] [] 2 (sq2 (sq2 in8)) (fe8 2 (.sl 1 0 L.length 1 true none) 2 0) (s8' z L))).ok = okT [(!eqb (z 5) 0) == false, (!eqb (z 5) 0) == false, (!eqb (z 5) 0) == false, (!eqb (z 5) 0) == false] true := by kernel_rfl
  exact tc8 (φ := [(0, false), (1, false), (2, false), (3, false)]) (nils := []) (by kernel_rfl) (e.trans (by rw [h]; rfl)) ⟨by kernel_rfl, by kernel_rfl, by kernel_rfl, by kernel_rfl, trivial⟩ (by kernel_rfl) ⟨by kernel_rfl, by kernel_rfl, trivial⟩
theorem slR2_2 (z : Nat → Int) (L : List Int) (hL : L.length < 65536) (hLe : L = resL z 2) : TC Try.prog 68 o8 (frL' (fo8 2 (.sl 1 0 L.length 1 true none) 2)) 2 (stL (s8' z L)) .normal (frL' (fo8 2 (.sl 1 0 L.length 1 true none) 3)) 2 (stL (s8' z L)) := by
  rw [o8_eq]
  have hr := c2_2 z
  rw [← hLe] at hr
  have hc := hr
  cases hz : eqb (z 5) 0 with
  | false => exact TC.seq (slA2 z 2 L ) (TC.seq (TC.block (TC.seq (slB2 z 2 L ) (TC.seq (slI2 z 2 L hL 0 hc) (slD2_2_true_0 z L (by rw [hz]; rfl)))) (.inl rfl)) (slE2 z 2 L ))
  | true => exact TC.seq (slA2 z 2 L ) (TC.seq (TC.block (TC.seq (slB2 z 2 L ) (TC.seq (slI2 z 2 L hL 0 hc) (slD2_2_false_0 z L (by rw [hz]; rfl)))) (.inl rfl)) (slE2 z 2 L ))
theorem slD2_3_true_0 (z : Nat → Int) (L : List Int) (h : (!eqb (z 7) 0) = true) : TC Try.prog 68 (sq2 (sq2 in8)) (frL' (fe8 2 (.sl 1 0 L.length 1 true none) 3 0)) 2 (stL (s8' z L)) .normal (frL' (fo8 2 (.sl 1 0 L.length 1 true none) 3)) 2 (stL (s8' z L)) := by
  have e : (oSt (ev8 [(0, true), (1, true), (2, true), (3, true)] [] 2 (sq2 (sq2 in8)) (fe8 2 (.sl 1 0 L.length 1 true none) 3 0) (s8' z L))).ok = okT [(!eqb (z 7) 0) == true, (!eqb (z 7) 0) == true, (!eqb (z 7) 0) == true, (!eqb (z 7) 0) == true] true := by kernel_rfl
  exact tc8 (φ := [(0, true), (1, true), (2, true), (3, true)]) (nils := []) (by kernel_rfl) (e.trans (by rw [h]; rfl)) ⟨by kernel_rfl, by kernel_rfl, by kernel_rfl, by kernel_rfl, trivial⟩ (by kernel_rfl) ⟨by kernel_rfl, by kernel_rfl, trivial⟩
theorem slD2_3_false_0 (z : Nat → Int) (L : List Int) (h : (!eqb (z 7) 0) = false) : TC Try.prog 68 (sq2 (sq2 in8)) (frL' (fe8 2 (.sl 1 0 L.length 1 true none) 3 0)) 2 (stL (s8' z L)) .normal (frL' (fo8 2 (.sl 1 0 L.length 1 true none) 3)) 2 (stL (s8' z L)) := by
  have e : (oSt (ev8 [(0, false), (1, false), (2, false), (3, false)] [] 2 (sq2 (sq2 in8)) (fe8 2 (.sl 1 0 L.length 1 true none) 3 0) (s8' z L))).ok = okT [(!eqb (z 7) 0) == false, (!eqb (z 7) 0) == false, (!eqb (z 7) 0) == false, (!eqb (z 7) 0) == false] true := by kernel_rfl
  exact tc8 (φ := [(0, false), (1, false), (2, false), (3, false)]) (nils := []) (by kernel_rfl) (e.trans (by rw [h]; rfl)) ⟨by kernel_rfl, by kernel_rfl, by kernel_rfl, by kernel_rfl, trivial⟩ (by kernel_rfl) ⟨by kernel_rfl, by kernel_rfl, trivial⟩
theorem slR2_3 (z : Nat → Int) (L : List Int) (hL : L.length < 65536) (hLe : L = resL z 2) : TC Try.prog 68 o8 (frL' (fo8 2 (.sl 1 0 L.length 1 true none) 3)) 2 (stL (s8' z L)) .normal (frL' (fo8 2 (.sl 1 0 L.length 1 true none) 4)) 2 (stL (s8' z L)) := by
  rw [o8_eq]
  have hr := c2_3 z
  rw [← hLe] at hr
  have hc := hr
  cases hz : eqb (z 7) 0 with
  | false => exact TC.seq (slA3 z 2 L ) (TC.seq (TC.block (TC.seq (slB3 z 2 L ) (TC.seq (slI3 z 2 L hL 0 hc) (slD2_3_true_0 z L (by rw [hz]; rfl)))) (.inl rfl)) (slE3 z 2 L ))
  | true => exact TC.seq (slA3 z 2 L ) (TC.seq (TC.block (TC.seq (slB3 z 2 L ) (TC.seq (slI3 z 2 L hL 0 hc) (slD2_3_false_0 z L (by rw [hz]; rfl)))) (.inl rfl)) (slE3 z 2 L ))
theorem slD2_4_true_0 (z : Nat → Int) (L : List Int) (h : (!eqb (z 9) 0) = true) : TC Try.prog 68 (sq2 (sq2 in8)) (frL' (fe8 2 (.sl 1 0 L.length 1 true none) 4 0)) 2 (stL (s8' z L)) .normal (frL' (fo8 2 (.sl 1 0 L.length 1 true none) 4)) 2 (stL (s8' z L)) := by
  have e : (oSt (ev8 [(0, true), (1, true), (2, true), (3, true)] [] 2 (sq2 (sq2 in8)) (fe8 2 (.sl 1 0 L.length 1 true none) 4 0) (s8' z L))).ok = okT [(!eqb (z 9) 0) == true, (!eqb (z 9) 0) == true, (!eqb (z 9) 0) == true, (!eqb (z 9) 0) == true] true := by kernel_rfl
  exact tc8 (φ := [(0, true), (1, true), (2, true), (3, true)]) (nils := []) (by kernel_rfl) (e.trans (by rw [h]; rfl)) ⟨by kernel_rfl, by kernel_rfl, by kernel_rfl, by kernel_rfl, trivial⟩ (by kernel_rfl) ⟨by kernel_rfl, by kernel_rfl, trivial⟩
theorem slD2_4_false_0 (z : Nat → Int) (L : List Int) (h : (!eqb (z 9) 0) = false) : TC Try.prog 68 (sq2 (sq2 in8)) (frL' (fe8 2 (.sl 1 0 L.length 1 true none) 4 0)) 2 (stL (s8' z L)) .normal (frL' (fo8 2 (.sl 1 0 L.length 1 true none) 4)) 2 (stL (s8' z L)) := by
  have e : (oSt (ev8 [(0, false), (1, false), (2, false), (3, false)] [] 2 (sq2 (sq2 in8)) (fe8 2 (.sl 1 0 L.length 1 true none) 4 0) (s8' z L))).ok = okT [(!eqb (z 9) 0) == false, (!eqb (z 9) 0) == false, (!eqb (z 9) 0) == false, (!eqb (z 9) 0) == false] true := by kernel_rfl
  exact tc8 (φ := [(0, false), (1, false), (2, false), (3, false)]) (nils := []) (by kernel_rfl) (e.trans (by rw [h]; rfl)) ⟨by kernel_rfl, by kernel_rfl, by kernel_rfl, by kernel_rfl, trivial⟩ (by kernel_rfl) ⟨by kernel_rfl, by kernel_rfl, trivial⟩
theorem slR2_4 (z : Nat → Int) (L : List Int) (hL : L.length < 65536) (hLe : L = resL z 2) : TC Try.prog 68 o8 (frL' (fo8 2 (.sl 1 0 L.length 1 true none) 4)) 2 (stL (s8' z L)) .normal (frL' (fo8 2 (.sl 1 0 L.length 1 true none) 5)) 2 (stL (s8' z L)) := by
  rw [o8_eq]
  have hr := c2_4 z
  rw [← hLe] at hr
  have hc := hr
  cases hz : eqb (z 9) 0 with
  | false => exact TC.seq (slA4 z 2 L ) (TC.seq (TC.block (TC.seq (slB4 z 2 L ) (TC.seq (slI4 z 2 L hL 0 hc) (slD2_4_true_0 z L (by rw [hz]; rfl)))) (.inl rfl)) (slE4 z 2 L ))
  | true => exact TC.seq (slA4 z 2 L ) (TC.seq (TC.block (TC.seq (slB4 z 2 L ) (TC.seq (slI4 z 2 L hL 0 hc) (slD2_4_false_0 z L (by rw [hz]; rfl)))) (.inl rfl)) (slE4 z 2 L ))
theorem slD2_5_true_0 (z : Nat → Int) (L : List Int) (h : (!eqb (z 11) 0) = true) : TC Try.prog 68 (sq2 (sq2 in8)) (frL' (fe8 2 (.sl 1 0 L.length 1 true none) 5 0)) 2 (stL (s8' z L)) .normal (frL' (fo8 2 (.sl 1 0 L.length 1 true none) 5)) 2 (stL (s8' z L)) := by
  have e : (oSt (ev8 [(0, true), (1, true), (2, true), (3, true)] [] 2 (sq2 (sq2 in8)) (fe8 2 (.sl 1 0 L.length 1 true none) 5 0) (s8' z L))).ok = okT [(!eqb (z 11) 0) == true, (!eqb (z 11) 0) == true, (!eqb (z 11) 0) == true, (!eqb (z 11) 0) == true] true := by kernel_rfl
  exact tc8 (φ := [(0, true), (1, true), (2, true), (3, true)]) (nils := []) (by kernel_rfl) (e.trans (by rw [h]; rfl)) ⟨by kernel_rfl, by kernel_rfl, by kernel_rfl, by kernel_rfl, trivial⟩ (by kernel_rfl) ⟨by kernel_rfl, by kernel_rfl, trivial⟩
theorem slD2_5_false_0 (z : Nat → Int) (L : List Int) (h : (!eqb (z 11) 0) = false) : TC Try.prog 68 (sq2 (sq2 in8)) (frL' (fe8 2 (.sl 1 0 L.length 1 true none) 5 0)) 2 (stL (s8' z L)) .normal (frL' (fo8 2 (.sl 1 0 L.length 1 true none) 5)) 2 (stL (s8' z L)) := by
  have e : (oSt (ev8 [(0, false), (1, false), (2, false), (3, false)] [] 2 (sq2 (sq2 in8)) (fe8 2 (.sl 1 0 L.length 1 true none) 5 0) (s8' z L))).ok = okT [(!eqb (z 11) 0) == false, (!eqb (z 11) 0) == false, (!eqb (z 11) 0) == false, (!eqb (z 11) 0) == false] true := by kernel_rfl
  exact tc8 (φ := [(0, false), (1, false), (2, false), (3, false)]) (nils := []) (by kernel_rfl) (e.trans (by rw [h]; rfl)) ⟨by kernel_rfl, by kernel_rfl, by kernel_rfl, by kernel_rfl, trivial⟩ (by kernel_rfl) ⟨by kernel_rfl, by kernel_rfl, trivial⟩
theorem slR2_5 (z : Nat → Int) (L : List Int) (hL : L.length < 65536) (hLe : L = resL z 2) : TC Try.prog 68 o8 (frL' (fo8 2 (.sl 1 0 L.length 1 true none) 5)) 2 (stL (s8' z L)) .normal (frL' (fo8 2 (.sl 1 0 L.length 1 true none) 6)) 2 (stL (s8' z L)) := by
  rw [o8_eq]
  have hr := c2_5 z
  rw [← hLe] at hr
  have hc := hr
  cases hz : eqb (z 11) 0 with
  | false => exact TC.seq (slA5 z 2 L ) (TC.seq (TC.block (TC.seq (slB5 z 2 L ) (TC.seq (slI5 z 2 L hL 0 hc) (slD2_5_true_0 z L (by rw [hz]; rfl)))) (.inl rfl)) (slE5 z 2 L ))
  | true => exact TC.seq (slA5 z 2 L ) (TC.seq (TC.block (TC.seq (slB5 z 2 L ) (TC.seq (slI5 z 2 L hL 0 hc) (slD2_5_false_0 z L (by rw [hz]; rfl)))) (.inl rfl)) (slE5 z 2 L ))
theorem slD2_6_true_0 (z : Nat → Int) (L : List Int) (h : (!eqb (z 13) 0) = true) : TC Try.prog 68 (sq2 (sq2 in8)) (frL' (fe8 2 (.sl 1 0 L.length 1 true none) 6 0)) 2 (stL (s8' z L)) .normal (frL' (fo8 2 (.sl 1 0 L.length 1 true none) 6)) 2 (stL (s8' z L)) := by
  have e : (oSt (ev8 [(0, true), (1, true), (2, true), (3, true)] [] 2 (sq2 (sq2 in8)) (fe8 2 (.sl 1 0 L.length 1 true none) 6 0) (s8' z L))).ok = okT [(!eqb (z 13) 0) == true, (!eqb (z 13) 0) == true, (!eqb (z 13) 0) == true, (!eqb (z 13) 0) == true] true := by kernel_rfl
  exact tc8 (φ := [(0, true), (1, true), (2, true), (3, true)]) (nils := []) (by kernel_rfl) (e.trans (by rw [h]; rfl)) ⟨by kernel_rfl, by kernel_rfl, by kernel_rfl, by kernel_rfl, trivial⟩ (by kernel_rfl) ⟨by kernel_rfl, by kernel_rfl, trivial⟩
theorem slD2_6_false_0 (z : Nat → Int) (L : List Int) (h : (!eqb (z 13) 0) = false) : TC Try.prog 68 (sq2 (sq2 in8)) (frL' (fe8 2 (.sl 1 0 L.length 1 true none) 6 0)) 2 (stL (s8' z L)) .normal (frL' (fo8 2 (.sl 1 0 L.length 1 true none) 6)) 2 (stL (s8' z L)) := by
  have e : (oSt (ev8 [(0, false), (1, false), (2, false), (3, false)] [] 2 (sq2 (sq2 in8)) (fe8 2 (.sl 1 0 L.length 1 true none) 6 0) (s8' z L))).ok = okT [(!eqb (z 13) 0) == false, (!eqb (z 13) 0) == false, (!eqb (z 13) 0) == false, (!eqb (z 13) 0) == false] true := by kernel_rfl
  exact tc8 (φ := [(0, false), (1, false), (2, false), (3, false)]) (nils := []) (by kernel_rfl) (e.trans (by rw [h]; rfl)) ⟨by kernel_rfl, by kernel_rfl, by kernel_rfl, by kernel_rfl, trivial⟩ (by kernel_rfl) ⟨by kernel_rfl, by kernel_rfl, trivial⟩
theorem slR2_6 (z : Nat → Int) (L : List Int) (hL : L.length < 65536) (hLe : L = resL z 2) : TC Try.prog 68 o8 (frL' (fo8 2 (.sl 1 0 L.length 1 true none) 6)) 2 (stL (s8' z L)) .normal (frL' (fo8 2 (.sl 1 0 L.length 1 true none) 7)) 2 (stL (s8' z L)) := by
  rw [o8_eq]
  have hr := c2_6 z
  rw [← hLe] at hr
  have hc := hr
  cases hz : eqb (z 13) 0 with
  | false => exact TC.seq (slA6 z 2 L ) (TC.seq (TC.block (TC.seq (slB6 z 2 L ) (TC.seq (slI6 z 2 L hL 0 hc) (slD2_6_true_0 z L (by rw [hz]; rfl)))) (.inl rfl)) (slE6 z 2 L ))
  | true => exact TC.seq (slA6 z 2 L ) (TC.seq (TC.block (TC.seq (slB6 z 2 L ) (TC.seq (slI6 z 2 L hL 0 hc) (slD2_6_false_0 z L (by rw [hz]; rfl)))) (.inl rfl)) (slE6 z 2 L ))
theorem slD2_7_true_0 (z : Nat → Int) (L : List Int) (h : (!eqb (z 15) 0) = true) : TC Try.prog 68 (sq2 (sq2 in8)) (frL' (fe8 2 (.sl 1 0 L.length 1 true none) 7 0)) 2 (stL (s8' z L)) .normal (frL' (fo8 2 (.sl 1 0 L.length 1 true none) 7)) 2 (stL (s8' z L)) := by
  have e : (oSt (ev8 [(0, true), (1, true), (2, true), (3, true)] [] 2 (sq2 (sq2 in8)) (fe8 2 (.sl 1 0 L.length 1 true none) 7 0) (s8' z L))).ok = okT [(!eqb (z 15) 0) == true, (!eqb (z 15) 0) == true, (!eqb (z 15) 0) == true, (!eqb (z 15) 0) == true] true := by kernel_rfl
  exact tc8 (φ := [(0, true), (1, true), (2, true), (3, true)]) (nils := []) (by kernel_rfl) (e.trans (by rw [h]; rfl)) ⟨by kernel_rfl, by kernel_rfl, by kernel_rfl, by kernel_rfl, trivial⟩ (by kernel_rfl) ⟨by kernel_rfl, by kernel_rfl, trivial⟩
theorem slD2_7_false_0 (z : Nat → Int) (L : List Int) (h : (!eqb (z 15) 0) = false) : TC Try.prog 68 (sq2 (sq2 in8)) (frL' (fe8 2 (.sl 1 0 L.length 1 true none) 7 0)) 2 (stL (s8' z L)) .normal (frL' (fo8 2 (.sl 1 0 L.length 1 true none) 7)) 2 (stL (s8' z L)) := by
  have e : (oSt (ev8 [(0, false), (1, false), (2, false), (3, false)] [] 2 (sq2 (sq2 in8)) (fe8 2 (.sl 1 0 L.length 1 true none) 7 0) (s8' z L))).ok = okT [(!eqb (z 15) 0) == false, (!eqb (z 15) 0) == false, (!eqb (z 15) 0) == false, (!eqb (z 15) 0) == false] true := by kernel_rfl
  exact tc8 (φ := [(0, false), (1, false), (2, false), (3, false)]) (nils := []) (by kernel_rfl) (e.trans (by rw [h]; rfl)) ⟨by kernel_rfl, by kernel_rfl, by kernel_rfl, by kernel_rfl, trivial⟩ (by kernel_rfl) ⟨by kernel_rfl, by kernel_rfl, trivial⟩
theorem slR2_7 (z : Nat → Int) (L : List Int) (hL : L.length < 65536) (hLe : L = resL z 2) : TC Try.prog 68 o8 (frL' (fo8 2 (.sl 1 0 L.length 1 true none) 7)) 2 (stL (s8' z L)) .normal (frL' (fo8 2 (.sl 1 0 L.length 1 true none) 8)) 2 (stL (s8' z L)) := by
  rw [o8_eq]
  have hr := c2_7 z
  rw [← hLe] at hr
  have hc := hr
  cases hz : eqb (z 15) 0 with
  | false => exact TC.seq (slA7 z 2 L ) (TC.seq (TC.block (TC.seq (slB7 z 2 L ) (TC.seq (slI7 z 2 L hL 0 hc) (slD2_7_true_0 z L (by rw [hz]; rfl)))) (.inl rfl)) (slE7 z 2 L ))
  | true => exact TC.seq (slA7 z 2 L ) (TC.seq (TC.block (TC.seq (slB7 z 2 L ) (TC.seq (slI7 z 2 L hL 0 hc) (slD2_7_false_0 z L (by rw [hz]; rfl)))) (.inl rfl)) (slE7 z 2 L ))
theorem slW2 (z : Nat → Int) (L : List Int) (hL : L.length < 65536) (hLe : L = resL z 2) : TC Try.prog 68 (.seq (.seq (sq1 (sq1 (sq2 out8))) (.block 0 (.loop o8))) (sq2 (sq2 out8))) (frL' [(1, .sc (.int .i64 2)), (2, .ptr 0 0), (5, (.sl 1 0 L.length 1 true none))]) 2 (stL (s8' z L)) .ret (frL' [(4, .sc (.bool true))]) 2 (stL (s8' z L)) :=
  TC.seq (TC.seq (slS z 2 L ) (TC.block (TC.loop (k := 9) (TR.more (slR2_0 z L hL hLe) (TR.more (slR2_1 z L hL hLe) (TR.more (slR2_2 z L hL hLe) (TR.more (slR2_3 z L hL hLe) (TR.more (slR2_4 z L hL hLe) (TR.more (slR2_5 z L hL hLe) (TR.more (slR2_6 z L hL hLe) (TR.more (slR2_7 z L hL hLe) (TR.out (slX z 2 L ) (by simp))))))))))) (.inr rfl))) (slZ z L )
theorem slD3_0_true_1 (z : Nat → Int) (L : List Int) (h : (!eqb (z 1) 0) = true) : TC Try.prog 68 (sq2 (sq2 in8)) (frL' (fe8 3 (.sl 1 0 L.length 1 true none) 0 1)) 2 (stL (s8' z L)) .normal (frL' (fo8 3 (.sl 1 0 L.length 1 true none) 0)) 2 (stL (s8' z L)) := by
  have e : (oSt (ev8 [(0, true), (1, true), (2, true), (3, true)] [] 2 (sq2 (sq2 in8)) (fe8 3 (.sl 1 0 L.length 1 true none) 0 1) (s8' z L))).ok = okT [(!eqb (z 1) 0) == true, (!eqb (z 1) 0) == true, (!eqb (z 1) 0) == true, (!eqb (z 1) 0) == true] true := by kernel_rfl
  exact tc8 (φ := [(0, true), (1, true), (2, true), (3, true)]) (nils := []) (by kernel_rfl) (e.trans (by rw [h]; rfl)) ⟨by kernel_rfl, by kernel_rfl, by kernel_rfl, by kernel_rfl, trivial⟩ (by kernel_rfl) ⟨by kernel_rfl, by kernel_rfl, trivial⟩
theorem slD3_0_false_0 (z : Nat → Int) (L : List Int) (h : (!eqb (z 1) 0) = false) : TC Try.prog 68 (sq2 (sq2 in8)) (frL' (fe8 3 (.sl 1 0 L.length 1 true none) 0 0)) 2 (stL (s8' z L)) .normal (frL' (fo8 3 (.sl 1 0 L.length 1 true none) 0)) 2 (stL (s8' z L)) := by
  have e : (oSt (ev8 [(0, false), (1, false), (2, false), (3, false)] [] 2 (sq2 (sq2 in8)) (fe8 3 (.sl 1 0 L.length 1 true none) 0 0) (s8' z L))).ok = okT [(!eqb (z 1) 0) == false, (!eqb (z 1) 0) == false, (!eqb (z 1) 0) == false, (!eqb (z 1) 0) == false] true := by kernel_rfl
  exact tc8 (φ := [(0, false), (1, false), (2, false), (3, false)]) (nils := []) (by kernel_rfl) (e.trans (by rw [h]; rfl)) ⟨by kernel_rfl, by kernel_rfl, by kernel_rfl, by kernel_rfl, trivial⟩ (by kernel_rfl) ⟨by kernel_rfl, by kernel_rfl, trivial⟩
theorem slD3_0_false_1 (z : Nat → Int) (L : List Int) (h : (!eqb (z 1) 0) = false) : TC Try.prog 68 (sq2 (sq2 in8)) (frL' (fe8 3 (.sl 1 0 L.length 1 true none) 0 1)) 2 (stL (s8' z L)) .normal (frL' (fo8 3 (.sl 1 0 L.length 1 true none) 0)) 2 (stL (s8' z L)) := by
  have e : (oSt (ev8 [(0, false), (1, false), (2, false), (3, false)] [] 2 (sq2 (sq2 in8)) (fe8 3 (.sl 1 0 L.length 1 true none) 0 1) (s8' z L))).ok = okT [(!eqb (z 1) 0) == false, (!eqb (z 1) 0) == false, (!eqb (z 1) 0) == false, (!eqb (z 1) 0) == false] true := by kernel_rfl
  exact tc8 (φ := [(0, false), (1, false), (2, false), (3, false)]) (nils := []) (by kernel_rfl) (e.trans (by rw [h]; rfl)) ⟨by kernel_rfl, by kernel_rfl, by kernel_rfl, by kernel_rfl, trivial⟩ (by kernel_rfl) ⟨by kernel_rfl, by kernel_rfl, trivial⟩
theorem slR3_0 (z : Nat → Int) (L : List Int) (hL : L.length < 65536) (hLe : L = resL z 3) : TC Try.prog 68 o8 (frL' (fo8 3 (.sl 1 0 L.length 1 true none) 0)) 2 (stL (s8' z L)) .normal (frL' (fo8 3 (.sl 1 0 L.length 1 true none) 1)) 2 (stL (s8' z L)) := by
  rw [o8_eq]
  have hr := c3_0 z
  rw [← hLe] at hr
  cases hz : eqb (z 1) 0 with
  | false =>
    have hc := hr.2 hz
    exact TC.seq (slA0 z 3 L ) (TC.seq (TC.block (TC.seq (slB0 z 3 L ) (TC.seq (slI0 z 3 L hL 1 hc) (slD3_0_true_1 z L (by rw [hz]; rfl)))) (.inl rfl)) (slE0 z 3 L ))
  | true =>
    rcases (show ucnt L 0 = 0 ∨ ucnt L 0 = 1 by omega) with hc | hc
    · exact TC.seq (slA0 z 3 L ) (TC.seq (TC.block (TC.seq (slB0 z 3 L ) (TC.seq (slI0 z 3 L hL 0 hc) (slD3_0_false_0 z L (by rw [hz]; rfl)))) (.inl rfl)) (slE0 z 3 L ))
    · exact TC.seq (slA0 z 3 L ) (TC.seq (TC.block (TC.seq (slB0 z 3 L ) (TC.seq (slI0 z 3 L hL 1 hc) (slD3_0_false_1 z L (by rw [hz]; rfl)))) (.inl rfl)) (slE0 z 3 L ))
theorem slD3_1_true_1 (z : Nat → Int) (L : List Int) (h : (!eqb (z 3) 0) = true) : TC Try.prog 68 (sq2 (sq2 in8)) (frL' (fe8 3 (.sl 1 0 L.length 1 true none) 1 1)) 2 (stL (s8' z L)) .normal (frL' (fo8 3 (.sl 1 0 L.length 1 true none) 1)) 2 (stL (s8' z L)) := by
  have e : (oSt (ev8 [(0, true), (1, true), (2, true), (3, true)] [] 2 (sq2 (sq2 in8)) (fe8 3 (.sl 1 0 L.length 1 true none) 1 1) (s8' z L))).ok = okT [(!eqb (z 3) 0) == true, (!eqb (z 3) 0) == true, (!eqb (z 3) 0) == true, (!eqb (z 3) 0) == true] true := by kernel_rfl
  exact tc8 (φ := [(0, true), (1, true), (2, true), (3, true)]) (nils := []) (by kernel_rfl) (e.trans (by rw [h]; rfl)) ⟨by kernel_rfl, by kernel_rfl, by kernel_rfl, by kernel_rfl, trivial⟩ (by kernel_rfl) ⟨by kernel_rfl, by kernel_rfl, trivial⟩
theorem slD3_1_false_0 (z : Nat → Int) (L : List Int) (h : (!eqb (z 3) 0) = false) : TC Try.prog 68 (sq2 (sq2 in8)) (frL' (fe8 3 (.sl 1 0 L.length 1 true none) 1 0)) 2 (stL (s8' z L)) .normal (frL' (fo8 3 (.sl 1 0 L.length 1 true none) 1)) 2 (stL (s8' z L)) := by
  have e : (oSt (ev8 [(0, false), (1, false), (2, false), (3, false)] [] 2 (sq2 (sq2 in8)) (fe8 3 (.sl 1 0 L.length 1 true none) 1 0) (s8' z L))).ok = okT [(!eqb (z 3) 0) == false, (!eqb (z 3) 0) == false, (!eqb (z 3) 0) == false, (!eqb (z 3) 0) == false] true := by kernel_rfl
  exact tc8 (φ := [(0, false), (1, false), (2, false), (3, false)]) (nils := []) (by kernel_rfl) (e.trans (by rw [h]; rfl)) ⟨by kernel_rfl, by kernel_rfl, by kernel_rfl, by kernel_rfl, trivial⟩ (by kernel_rfl) ⟨by kernel_rfl, by kernel_rfl, trivial⟩
theorem slD3_1_false_1 (z : Nat → Int) (L : List Int) (h : (!eqb (z 3) 0) = false) : TC Try.prog 68 (sq2 (sq2 in8)) (frL' (fe8 3 (.sl 1 0 L.length 1 true none) 1 1)) 2 (stL (s8' z L)) .normal (frL' (fo8 3 (.sl 1 0 L.length 1 true none) 1)) 2 (stL (s8' z L)) := by
  have e : (oSt (ev8 [(0, false), (1, false), (2, false), (3, false)] [] 2 (sq2 (sq2 in8)) (fe8 3 (.sl 1 0 L.length 1 true none) 1 1) (s8' z L))).ok = okT [(!eqb (z 3) 0) == false, (!eqb (z 3) 0) == false, (!eqb (z 3) 0) == false, (!eqb (z 3) 0) == false] true := by kernel_rfl
  exact tc8 (φ := [(0, false), (1, false), (2, false), (3, false)]) (nils := []) (by kernel_rfl) (e.trans (by rw [h]; rfl)) ⟨by kernel_rfl, by kernel_rfl, by kernel_rfl, by kernel_rfl, trivial⟩ (by kernel_rfl) ⟨by kernel_rfl, by kernel_rfl, trivial⟩
theorem slR3_1 (z : Nat → Int) (L : List Int) (hL : L.length < 65536) (hLe : L = resL z 3) : TC Try.prog 68 o8 (frL' (fo8 3 (.sl 1 0 L.length 1 true none) 1)) 2 (stL (s8' z L)) .normal (frL' (fo8 3 (.sl 1 0 L.length 1 true none) 2)) 2 (stL (s8' z L)) := by
  rw [o8_eq]
  have hr := c3_1 z
  rw [← hLe] at hr
  cases hz : eqb (z 3) 0 with
  | false =>
    have hc := hr.2 hz
    exact TC.seq (slA1 z 3 L ) (TC.seq (TC.block (TC.seq (slB1 z 3 L ) (TC.seq (slI1 z 3 L hL 1 hc) (slD3_1_true_1 z L (by rw [hz]; rfl)))) (.inl rfl)) (slE1 z 3 L ))
  | true =>
    rcases (show ucnt L 1 = 0 ∨ ucnt L 1 = 1 by omega) with hc | hc
    · exact TC.seq (slA1 z 3 L ) (TC.seq (TC.block (TC.seq (slB1 z 3 L ) (TC.seq (slI1 z 3 L hL 0 hc) (slD3_1_false_0 z L (by rw [hz]; rfl)))) (.inl rfl)) (slE1 z 3 L ))
    · exact TC.seq (slA1 z 3 L ) (TC.seq (TC.block (TC.seq (slB1 z 3 L ) (TC.seq (slI1 z 3 L hL 1 hc) (slD3_1_false_1 z L (by rw [hz]; rfl)))) (.inl rfl)) (slE1 z 3 L ))
theorem slD3_2_true_1 (z : Nat → Int) (L : List Int) (h : (!eqb (z 5) 0) = true) : TC Try.prog 68 (sq2 (sq2 in8)) (frL' (fe8 3 (.sl 1 0 L.length 1 true none) 2 1)) 2 (stL (s8' z L)) .normal (frL' (fo8 3 (.sl 1 0 L.length 1 true none) 2)) 2 (stL (s8' z L)) := by
  have e : (oSt (ev8 [(0, true), (1, true), (2, true), (3, true)] [] 2 (sq2 (sq2 in8)) (fe8 3 (.sl 1 0 L.length 1 true none) 2 1) (s8' z L))).ok = okT [(!eqb (z 5) 0) == true, (!eqb (z 5) 0) == true, (!eqb (z 5) 0) == true, (!eqb (z 5) 0) == true] true := by kernel_rfl
  exact tc8 (φ := [(0, true), (1, true), (2, true), (3, true)]) (nils := []) (by kernel_rfl) (e.trans (by rw [h]; rfl)) ⟨by kernel_rfl, by kernel_rfl, by kernel_rfl, by kernel_rfl, trivial⟩ (by kernel_rfl) ⟨by kernel_rfl, by kernel_rfl, trivial⟩
theorem slD3_2_false_0 (z : Nat → Int) (L : List Int) (h : (!eqb (z 5) 0) = false) : TC Try.prog 68 (sq2 (sq2 in8)) (frL' (fe8 3 (.sl 1 0 L.length 1 true none) 2 0)) 2 (stL (s8' z L)) .normal (frL' (fo8 3 (.sl 1 0 L.length 1 true none) 2)) 2 (stL (s8' z L)) := by
  have e : (oSt (ev8 [(0, false), (1, false), (2, false), (3, false)] [] 2 (sq2 (sq2 in8)) (fe8 3 (.sl 1 0 L.length 1 true none) 2 0) (s8' z L))).ok = okT [(!eqb (z 5) 0) == false, (!eqb (z 5) 0) == false, (!eqb (z 5) 0) == false, (!eqb (z 5) 0) == false] true := by kernel_rfl
  exact tc8 (φ := [(0, false), (1, false), (2, false), (3, false)]) (nils := []) (by kernel_rfl) (e.trans (by rw [h]; rfl)) ⟨by kernel_rfl, by kernel_rfl, by kernel_rfl, by kernel_rfl, trivial⟩ (by kernel_rfl) ⟨by kernel_rfl, by kernel_rfl, trivial⟩
theorem slD3_2_false_1 (z : Nat → Int) (L : List Int) (h : (!eqb (z 5) 0) = false) : TC Try.prog 68 (sq2 (sq2 in8)) (frL' (fe8 3 (.sl 1 0 L.length 1 true none) 2 1)) 2 (stL (s8' z L)) .normal (frL' (fo8 3 (.sl 1 0 L.length 1 true none) 2)) 2 (stL (s8' z L)) := by
  have e : (oSt (ev8 [(0, false), (1, false), (2, false), (3, false)] [] 2 (sq2 (sq2 in8)) (fe8 3 (.sl 1 0 L.length 1 true none) 2 1) (s8' z L))).ok = okT [(!eqb (z 5) 0) == false, (!eqb (z 5) 0) == false, (!eqb (z 5) 0) == false, (!eqb (z 5) 0) == false] true := by kernel_rfl
  exact tc8 (φ := [(0, false), (1, false), (2, false), (3, false)]) (nils := []) (by kernel_rfl) (e.trans (by rw [h]; rfl)) ⟨by kernel_rfl, by kernel_rfl, by kernel_rfl, by kernel_rfl, trivial⟩ (by kernel_rfl) ⟨by kernel_rfl, by kernel_rfl, trivial⟩
theorem slR3_2 (z : Nat → Int) (L : List Int) (hL : L.length < 65536) (hLe : L = resL z 3) : TC Try.prog 68 o8 (frL' (fo8 3 (.sl 1 0 L.length 1 true none) 2)) 2 (stL (s8' z L)) .normal (frL' (fo8 3 (.sl 1 0 L.length 1 true none) 3)) 2 (stL (s8' z L)) := by
  rw [o8_eq]
  have hr := c3_2 z
  rw [← hLe] at hr
  cases hz : eqb (z 5) 0 with
  | false =>
    have hc := hr.2 hz
    exact TC.seq (slA2 z 3 L ) (TC.seq (TC.block (TC.seq (slB2 z 3 L ) (TC.seq (slI2 z 3 L hL 1 hc) (slD3_2_true_1 z L (by rw [hz]; rfl)))) (.inl rfl)) (slE2 z 3 L ))
  | true =>
    rcases (show ucnt L 2 = 0 ∨ ucnt L 2 = 1 by omega) with hc | hc
    · exact TC.seq (slA2 z 3 L ) (TC.seq (TC.block (TC.seq (slB2 z 3 L ) (TC.seq (slI2 z 3 L hL 0 hc) (slD3_2_false_0 z L (by rw [hz]; rfl)))) (.inl rfl)) (slE2 z 3 L ))
    · exact TC.seq (slA2 z 3 L ) (TC.seq (TC.block (TC.seq (slB2 z 3 L ) (TC.seq (slI2 z 3 L hL 1 hc) (slD3_2_false_1 z L (by rw [hz]; rfl)))) (.inl rfl)) (slE2 z 3 L ))
theorem slD3_3_true_1 (z : Nat → Int) (L : List Int) (h : (!eqb (z 7) 0) = true) : TC Try.prog 68 (sq2 (sq2 in8)) (frL' (fe8 3 (.sl 1 0 L.length 1 true none) 3 1)) 2 (stL (s8' z L)) .normal (frL' (fo8 3 (.sl 1 0 L.length 1 true none) 3)) 2 (stL (s8' z L)) := by
  have e : (oSt (ev8 [(0, true), (1, true), (2, true), (3, true)] [] 2 (sq2 (sq2 in8)) (fe8 3 (.sl 1 0 L.length 1 true none) 3 1) (s8' z L))).ok = okT [(!eqb (z 7) 0) == true, (!eqb (z 7) 0) == true, (!eqb (z 7) 0) == true, (!eqb (z 7) 0) == true] true := by kernel_rfl
  exact tc8 (φ := [(0, true), (1, true), (2, true), (3, true)]) (nils := []) (by kernel_rfl) (e.trans (by rw [h]; rfl)) ⟨by kernel_rfl, by kernel_rfl, by kernel_rfl, by kernel_rfl, trivial⟩ (by kernel_rfl) ⟨by kernel_rfl, by kernel_rfl, trivial⟩
theorem slD3_3_false_0 (z : Nat → Int) (L : List Int) (h : (!eqb (z 7) 0) = false) : TC Try.prog 68 (sq2 (sq2 in8)) (frL' (fe8 3 (.sl 1 0 L.length 1 true none) 3 0)) 2 (stL (s8' z L)) .normal (frL' (fo8 3 (.sl 1 0 L.length 1 true none) 3)) 2 (stL (s8' z L)) := by
  have e : (oSt (ev8 [(0, false), (1, false), (2, false), (3, false)] [] 2 (sq2 (sq2 in8)) (fe8 3 (.sl 1 0 L.length 1 true none) 3 0) (s8' z L))).ok = okT [(!eqb (z 7) 0) == false, (!eqb (z 7) 0) == false, (!eqb (z 7) 0) == false, (!eqb (z 7) 0) == false] true := by kernel_rfl
  exact tc8 (φ := [(0, false), (1, false), (2, false), (3, false)]) (nils := []) (by kernel_rfl) (e.trans (by rw [h]; rfl)) ⟨by kernel_rfl, by kernel_rfl, by kernel_rfl, by kernel_rfl, trivial⟩ (by kernel_rfl) ⟨by kernel_rfl, by kernel_rfl, trivial⟩
theorem slD3_3_false_1 (z : Nat → Int) (L : List Int) (h : (!eqb (z 7) 0) = false) : TC Try.prog 68 (sq2 (sq2 in8)) (frL' (fe8 3 (.sl 1 0 L.length 1 true none) 3 1)) 2 (stL (s8' z L)) .normal (frL' (fo8 3 (.sl 1 0 L.length 1 true none) 3)) 2 (stL (s8' z L)) := by
  have e : (oSt (ev8 [(0, false), (1, false), (2, false), (3, false)] [] 2 (sq2 (sq2 in8)) (fe8 3 (.sl 1 0 L.length 1 true none) 3 1) (s8' z L))).ok = okT [(!eqb (z 7) 0) == false, (!eqb (z 7) 0) == false, (!eqb (z 7) 0) == false, (!eqb (z 7) 0) == false] true := by kernel_rfl
  exact tc8 (φ := [(0, false), (1, false), (2, false), (3, false)]) (nils := []) (by kernel_rfl) (e.trans (by rw [h]; rfl)) ⟨by kernel_rfl, by kernel_rfl, by kernel_rfl, by kernel_rfl, trivial⟩ (by kernel_rfl) ⟨by kernel_rfl, by kernel_rfl, trivial⟩
theorem slR3_3 (z : Nat → Int) (L : List Int) (hL : L.length < 65536) (hLe : L = resL z 3) : TC Try.prog 68 o8 (frL' (fo8 3 (.sl 1 0 L.length 1 true none) 3)) 2 (stL (s8' z L)) .normal (frL' (fo8 3 (.sl 1 0 L.length 1 true none) 4)) 2 (stL (s8' z L)) := by
  rw [o8_eq]
  have hr := c3_3 z
  rw [← hLe] at hr
  cases hz : eqb (z 7) 0 with
  | false =>
    have hc := hr.2 hz
    exact TC.seq (slA3 z 3 L ) (TC.seq (TC.block (TC.seq (slB3 z 3 L ) (TC.seq (slI3 z 3 L hL 1 hc) (slD3_3_true_1 z L (by rw [hz]; rfl)))) (.inl rfl)) (slE3 z 3 L ))
  | true =>
    rcases (show ucnt L 3 = 0 ∨ ucnt L 3 = 1 by omega) with hc | hc
    · exact TC.seq (slA3 z 3 L ) (TC.seq (TC.block (TC.seq (slB3 z 3 L ) (TC.seq (slI3 z 3 L hL 0 hc) (slD3_3_false_0 z L (by rw [hz]; rfl)))) (.inl rfl)) (slE3 z 3 L ))
    · exact TC.seq (slA3 z 3 L ) (TC.seq (TC.block (TC.seq (slB3 z 3 L ) (TC.seq (slI3 z 3 L hL 1 hc) (slD3_3_false_1 z L (by rw [hz]; rfl)))) (.inl rfl)) (slE3 z 3 L ))
theorem slD3_4_true_0 (z : Nat → Int) (L : List Int) (h : (!eqb (z 9) 0) = true) : TC Try.prog 68 (sq2 (sq2 in8)) (frL' (fe8 3 (.sl 1 0 L.length 1 true none) 4 0)) 2 (stL (s8' z L)) .normal (frL' (fo8 3 (.sl 1 0 L.length 1 true none) 4)) 2 (stL (s8' z L)) := by
  have e : (oSt (ev8 [(0, true), (1, true), (2, true), (3, true)] [] 2 (sq2 (sq2 in8)) (fe8 3 (.sl 1 0 L.length 1 true none) 4 0) (s8' z L))).ok = okT [(!eqb (z 9) 0) == true, (!eqb (z 9) 0) == true, (!eqb (z 9) 0) == true, (!eqb (z 9) 0) == true] true := by kernel_rfl
  exact tc8 (φ := [(0, true), (1, true), (2, true), (3, true)]) (nils := []) (by kernel_rfl) (e.trans (by rw [h]; rfl)) ⟨by kernel_rfl, by kernel_rfl, by kernel_rfl, by kernel_rfl, trivial⟩ (by kernel_rfl) ⟨by kernel_rfl, by kernel_rfl, trivial⟩
theorem slD3_4_false_0 (z : Nat → Int) (L : List Int) (h : (!eqb (z 9) 0) = false) : TC Try.prog 68 (sq2 (sq2 in8)) (frL' (fe8 3 (.sl 1 0 L.length 1 true none) 4 0)) 2 (stL (s8' z L)) .normal (frL' (fo8 3 (.sl 1 0 L.length 1 true none) 4)) 2 (stL (s8' z L)) := by
  have e : (oSt (ev8 [(0, false), (1, false), (2, false), (3, false)] [] 2 (sq2 (sq2 in8)) (fe8 3 (.sl 1 0 L.length 1 true none) 4 0) (s8' z L))).ok = okT [(!eqb (z 9) 0) == false, (!eqb (z 9) 0) == false, (!eqb (z 9) 0) == false, (!eqb (z 9) 0) == false] true := by kernel_rfl
  exact tc8 (φ := [(0, false), (1, false), (2, false), (3, false)]) (nils := []) (by kernel_rfl) (e.trans (by rw [h]; rfl)) ⟨by kernel_rfl, by kernel_rfl, by kernel_rfl, by kernel_rfl, trivial⟩ (by kernel_rfl) ⟨by kernel_rfl, by kernel_rfl, trivial⟩
theorem slR3_4 (z : Nat → Int) (L : List Int) (hL : L.length < 65536) (hLe : L = resL z 3) : TC Try.prog 68 o8 (frL' (fo8 3 (.sl 1 0 L.length 1 true none) 4)) 2 (stL (s8' z L)) .normal (frL' (fo8 3 (.sl 1 0 L.length 1 true none) 5)) 2 (stL (s8' z L)) := by
  rw [o8_eq]
  have hr := c3_4 z
  rw [← hLe] at hr
  have hc := hr
  cases hz : eqb (z 9) 0 with
  | false => exact TC.seq (slA4 z 3 L ) (TC.seq (TC.block (TC.seq (slB4 z 3 L ) (TC.seq (slI4 z 3 L hL 0 hc) (slD3_4_true_0 z L (by rw [hz]; rfl)))) (.inl rfl)) (slE4 z 3 L ))
  | true => exact TC.seq (slA4 z 3 L ) (TC.seq (TC.block (TC.seq (slB4 z 3 L ) (TC.seq (slI4 z 3 L hL 0 hc) (slD3_4_false_0 z L (by rw [hz]; rfl)))) (.inl rfl)) (slE4 z 3 L ))
theorem slD3_5_true_0 (z : Nat → Int) (L : List Int) (h : (!eqb (z 11) 0) = true) : TC Try.prog 68 (sq2 (sq2 in8)) (frL' (fe8 3 (.sl 1 0 L.length 1 true none) 5 0)) 2 (stL (s8' z L)) .normal (frL' (fo8 3 (.sl 1 0 L.length 1 true none) 5)) 2 (stL (s8' z L)) := by
  have e : (oSt (ev8 [(0, true), (1, true), (2, true), (3, true)] [] 2 (sq2 (sq2 in8)) (fe8 3 (.sl 1 0 L.length 1 true none) 5 0) (s8' z L))).ok = okT [(!eqb (z 11) 0) == true, (!eqb (z 11) 0) == true, (!eqb (z 11) 0) == true, (!eqb (z 11) 0) == true] true := by kernel_rfl
  exact tc8 (φ := [(0, true), (1, true), (2, true), (3, true)]) (nils := []) (by kernel_rfl) (e.trans (by rw [h]; rfl)) ⟨by kernel_rfl, by kernel_rfl, by kernel_rfl, by kernel_rfl, trivial⟩ (by kernel_rfl) ⟨by kernel_rfl, by kernel_rfl, trivial⟩
theorem slD3_5_false_0 (z : Nat → Int) (L : List Int) (h : (!eqb (z 11) 0) = false) : TC Try.prog 68 (sq2 (sq2 in8)) (frL' (fe8 3 (.sl 1 0 L.length 1 true none) 5 0)) 2 (stL (s8' z L)) .normal (frL' (fo8 3 (.sl 1 0 L.length 1 true none) 5)) 2 (stL (s8' z L)) := by
  have e : (oSt (ev8 [(0, false), (1, false), (2, false), (3, false)] [] 2 (sq2 (sq2 in8)) (fe8 3 (.sl 1 0 L.length 1 true none) 5 0) (s8' z L))).ok = okT [(!eqb (z 11) 0) == false, (!eqb (z 11) 0) == false, (!eqb (z 11) 0) == false, (!eqb (z 11) 0) == false] true := by kernel_rfl
  exact tc8 (φ := [(0, false), (1, false), (2, false), (3, false)]) (nils := []) (by kernel_rfl) (e.trans (by rw [h]; rfl)) ⟨by kernel_rfl, by kernel_rfl, by kernel_rfl, by kernel_rfl, trivial⟩ (by kernel_rfl) ⟨by kernel_rfl, by kernel_rfl, trivial⟩
theorem slR3_5 (z : Nat → Int) (L : List Int) (hL : L.length < 65536) (hLe : L = resL z 3) : TC Try.prog 68 o8 (frL' (fo8 3 (.sl 1 0 L.length 1 true none) 5)) 2 (stL (s8' z L)) .normal (frL' (fo8 3 (.sl 1 0 L.length 1 true none) 6)) 2 (stL (s8' z L)) := by
  rw [o8_eq]
  have hr := c3_5 z
  rw [← hLe] at hr
  have hc := hr
  cases hz : eqb (z 11) 0 with
  | false => exact TC.seq (slA5 z 3 L ) (TC.seq (TC.block (TC.seq (slB5 z 3 L ) (TC.seq (slI5 z 3 L hL 0 hc) (slD3_5_true_0 z L (by rw [hz]; rfl)))) (.inl rfl)) (slE5 z 3 L ))
  | true => exact TC.seq (slA5 z 3 L ) (TC.seq (TC.block (TC.seq (slB5 z 3 L ) (TC.seq (slI5 z 3 L hL 0 hc) (slD3_5_false_0 z L (by rw [hz]; rfl)))) (.inl rfl)) (slE5 z 3 L ))
theorem slD3_6_true_0 (z : Nat → Int) (L : List Int) (h : (!eqb (z 13) 0) = true) : TC Try.prog 68 (sq2 (sq2 in8)) (frL' (fe8 3 (.sl 1 0 L.length 1 true none) 6 0)) 2 (stL (s8' z L)) .normal (frL' (fo8 3 (.sl 1 0 L.length 1 true none) 6)) 2 (stL (s8' z L)) := by
  have e : (oSt (ev8 [(0, true), (1, true), (2, true), (3, true)] [] 2 (sq2 (sq2 in8)) (fe8 3 (.sl 1 0 L.length 1 true none) 6 0) (s8' z L))).ok = okT [(!eqb (z 13) 0) == true, (!eqb (z 13) 0) == true, (!eqb (z 13) 0) == true, (!eqb (z 13) 0) == true] true := by kernel_rfl
  exact tc8 (φ := [(0, true), (1, true), (2, true), (3, true)]) (nils := []) (by kernel_rfl) (e.trans (by rw [h]; rfl)) ⟨by kernel_rfl, by kernel_rfl, by kernel_rfl, by kernel_rfl, trivial⟩ (by kernel_rfl) ⟨by kernel_rfl, by kernel_rfl, trivial⟩
theorem slD3_6_false_0 (z : Nat → Int) (L : List Int) (h : (!eqb (z 13) 0) = false) : TC Try.prog 68 (sq2 (sq2 in8)) (frL' (fe8 3 (.sl 1 0 L.length 1 true none) 6 0)) 2 (stL (s8' z L)) .normal (frL' (fo8 3 (.sl 1 0 L.length 1 true none) 6)) 2 (stL (s8' z L)) := by
  have e : (oSt (ev8 [(0, false), (1, false), (2, false), (3, false)] [] 2 (sq2 (sq2 in8)) (fe8 3 (.sl 1 0 L.length 1 true none) 6 0) (s8' z L))).ok = okT [(!eqb (z 13) 0) == false, (!eqb (z 13) 0) == false, (!eqb (z 13) 0) == false, (!eqb (z 13) 0) == false] true := by kernel_rfl
  exact tc8 (φ := [(0, false), (1, false), (2, false), (3, false)]) (nils := []) (by kernel_rfl) (e.trans (by rw [h]; rfl)) ⟨by kernel_rfl, by kernel_rfl, by kernel_rfl, by kernel_rfl, trivial⟩ (by kernel_rfl) ⟨by kernel_rfl, by kernel_rfl, trivial⟩
theorem slR3_6 (z : Nat → Int) (L : List Int) (hL : L.length < 65536) (hLe : L = resL z 3) : TC Try.prog 68 o8 (frL' (fo8 3 (.sl 1 0 L.length 1 true none) 6)) 2 (stL (s8' z L)) .normal (frL' (fo8 3 (.sl 1 0 L.length 1 true none) 7)) 2 (stL (s8' z L)) := by
  rw [o8_eq]
  have hr := c3_6 z
  rw [← hLe] at hr
  have hc := hr
  cases hz : eqb (z 13) 0 with
  | false => exact TC.seq (slA6 z 3 L ) (TC.seq (TC.block (TC.seq (slB6 z 3 L ) (TC.seq (slI6 z 3 L hL 0 hc) (slD3_6_true_0 z L (by rw [hz]; rfl)))) (.inl rfl)) (slE6 z 3 L ))
  | true => exact TC.seq (slA6 z 3 L ) (TC.seq (TC.block (TC.seq (slB6 z 3 L ) (TC.seq (slI6 z 3 L hL 0 hc) (slD3_6_false_0 z L (by rw [hz]; rfl)))) (.inl rfl)) (slE6 z 3 L ))
theorem slD3_7_true_0 (z : Nat → Int) (L : List Int) (h : (!eqb (z 15) 0) = true) : TC Try.prog 68 (sq2 (sq2 in8)) (frL' (fe8 3 (.sl 1 0 L.length 1 true none) 7 0)) 2 (stL (s8' z L)) .normal (frL' (fo8 3 (.sl 1 0 L.length 1 true none) 7)) 2 (stL (s8' z L)) := by
  have e : (oSt (ev8 [(0, true), (1, true), (2, true), (3, true)] [] 2 (sq2 (sq2 in8)) (fe8 3 (.sl 1 0 L.length 1 true none) 7 0) (s8' z L))).ok = okT [(!eqb (z 15) 0) == true, (!eqb (z 15) 0) == true, (!eqb (z 15) 0) == true, (!eqb (z 15) 0) == true] true := by kernel_rfl
  exact tc8 (φ := [(0, true), (1, true), (2, true), (3, true)]) (nils := []) (by kernel_rfl) (e.trans (by rw [h]; rfl)) ⟨by kernel_rfl, by kernel_rfl, by kernel_rfl, by kernel_rfl, trivial⟩ (by kernel_rfl) ⟨by kernel_rfl, by kernel_rfl, trivial⟩
theorem slD3_7_false_0 (z : Nat → Int) (L : List Int) (h : (!eqb (z 15) 0) = false) : TC Try.prog 68 (sq2 (sq2 in8)) (frL' (fe8 3 (.sl 1 0 L.length 1 true none) 7 0)) 2 (stL (s8' z L)) .normal (frL' (fo8 3 (.sl 1 0 L.length 1 true none) 7)) 2 (stL (s8' z L)) := by
  have e : (oSt (ev8 [(0, false), (1, false), (2, false), (3, false)] [] 2 (sq2 (sq2 in8)) (fe8 3 (.sl 1 0 L.length 1 true none) 7 0) (s8' z L))).ok = okT [(!eqb (z 15) 0) == false, (!eqb (z 15) 0) == false, (!eqb (z 15) 0) == false, (!eqb (z 15) 0) == false] true := by kernel_rfl
  exact tc8 (φ := [(0, false), (1, false), (2, false), (3, false)]) (nils := []) (by kernel_rfl) (e.trans (by rw [h]; rfl)) ⟨by kernel_rfl, by kernel_rfl, by kernel_rfl, by kernel_rfl, trivial⟩ (by kernel_rfl) ⟨by kernel_rfl, by kernel_rfl, trivial⟩
theorem slR3_7 (z : Nat → Int) (L : List Int) (hL : L.length < 65536) (hLe : L = resL z 3) : TC Try.prog 68 o8 (frL' (fo8 3 (.sl 1 0 L.length 1 true none) 7)) 2 (stL (s8' z L)) .normal (frL' (fo8 3 (.sl 1 0 L.length 1 true none) 8)) 2 (stL (s8' z L)) := by
  rw [o8_eq]
  have hr := c3_7 z
  rw [← hLe] at hr
  have hc := hr
  cases hz : eqb (z 15) 0 with
  | false => exact TC.seq (slA7 z 3 L ) (TC.seq (TC.block (TC.seq (slB7 z 3 L ) (TC.seq (slI7 z 3 L hL 0 hc) (slD3_7_true_0 z L (by rw [hz]; rfl)))) (.inl rfl)) (slE7 z 3 L ))
  | true => exact TC.seq (slA7 z 3 L ) (TC.seq (TC.block (TC.seq (slB7 z 3 L ) (TC.seq (slI7 z 3 L hL 0 hc) (slD3_7_false_0 z L (by rw [hz]; rfl)))) (.inl rfl)) (slE7 z 3 L ))
theorem slW3 (z : Nat → Int) (L : List Int) (hL : L.length < 65536) (hLe : L = resL z 3) : TC Try.prog 68 (.seq (.seq (sq1 (sq1 (sq2 out8))) (.block 0 (.loop o8))) (sq2 (sq2 out8))) (frL' [(1, .sc (.int .i64 3)), (2, .ptr 0 0), (5, (.sl 1 0 L.length 1 true none))]) 2 (stL (s8' z L)) .ret (frL' [(4, .sc (.bool true))]) 2 (stL (s8' z L)) :=
  TC.seq (TC.seq (slS z 3 L ) (TC.block (TC.loop (k := 9) (TR.more (slR3_0 z L hL hLe) (TR.more (slR3_1 z L hL hLe) (TR.more (slR3_2 z L hL hLe) (TR.more (slR3_3 z L hL hLe) (TR.more (slR3_4 z L hL hLe) (TR.more (slR3_5 z L hL hLe) (TR.more (slR3_6 z L hL hLe) (TR.more (slR3_7 z L hL hLe) (TR.out (slX z 3 L ) (by simp))))))))))) (.inr rfl))) (slZ z L )
theorem slD4_0_true_0 (z : Nat → Int) (L : List Int) (h : (!eqb (z 1) 0) = true) : TC Try.prog 68 (sq2 (sq2 in8)) (frL' (fe8 4 (.sl 1 0 L.length 1 true none) 0 0)) 2 (stL (s8' z L)) .normal (frL' (fo8 4 (.sl 1 0 L.length 1 true none) 0)) 2 (stL (s8' z L)) := by
  have e : (oSt (ev8 [(0, true), (1, true), (2, true), (3, true)] [] 2 (sq2 (sq2 in8)) (fe8 4 (.sl 1 0 L.length 1 true none) 0 0) (s8' z L))).ok = okT [(!eqb (z 1) 0) == true, (!eqb (z 1) 0) == true, (!eqb (z 1) 0) == true, (!eqb (z 1) 0) == true] true := by kernel_rfl
  exact tc8 (φ := [(0, true), (1, true), (2, true), (3, true)]) (nils := []) (by kernel_rfl) (e.trans (by rw [h]; rfl)) ⟨by kernel_rfl, by kernel_rfl, by kernel_rfl, by kernel_rfl, trivial⟩ (by kernel_rfl) ⟨by kernel_rfl, by kernel_rfl, trivial⟩
theorem slD4_0_false_0 (z : Nat → Int) (L : List Int) (h : (!eqb (z 1) 0) = false) : TC Try.prog 68 (sq2 (sq2 in8)) (frL' (fe8 4 (.sl 1 0 L.length 1 true none) 0 0)) 2 (stL (s8' z L)) .normal (frL' (fo8 4 (.sl 1 0 L.length 1 true none) 0)) 2 (stL (s8' z L)) := by
  have e : (oSt (ev8 [(0, false), (1, false), (2, false), (3, false)] [] 2 (sq2 (sq2 in8)) (fe8 4 (.sl 1 0 L.length 1 true none) 0 0) (s8' z L))).ok = okT [(!eqb (z 1) 0) == false, (!eqb (z 1) 0) == false, (!eqb (z 1) 0) == false, (!eqb (z 1) 0) == false] true := by kernel_rfl
  exact tc8 (φ := [(0, false), (1, false), (2, false), (3, false)]) (nils := []) (by kernel_rfl) (e.trans (by rw [h]; rfl)) ⟨by kernel_rfl, by kernel_rfl, by kernel_rfl, by kernel_rfl, trivial⟩ (by kernel_rfl) ⟨by kernel_rfl, by kernel_rfl, trivial⟩
theorem slR4_0 (z : Nat → Int) (L : List Int) (hL : L.length < 65536) (hLe : L = resL z 4) : TC Try.prog 68 o8 (frL' (fo8 4 (.sl 1 0 L.length 1 true none) 0)) 2 (stL (s8' z L)) .normal (frL' (fo8 4 (.sl 1 0 L.length 1 true none) 1)) 2 (stL (s8' z L)) := by
  rw [o8_eq]
  have hr := c4_0 z
  rw [← hLe] at hr
  have hc := hr
  cases hz : eqb (z 1) 0 with
  | false => exact TC.seq (slA0 z 4 L ) (TC.seq (TC.block (TC.seq (slB0 z 4 L ) (TC.seq (slI0 z 4 L hL 0 hc) (slD4_0_true_0 z L (by rw [hz]; rfl)))) (.inl rfl)) (slE0 z 4 L ))
  | true => exact TC.seq (slA0 z 4 L ) (TC.seq (TC.block (TC.seq (slB0 z 4 L ) (TC.seq (slI0 z 4 L hL 0 hc) (slD4_0_false_0 z L (by rw [hz]; rfl)))) (.inl rfl)) (slE0 z 4 L ))
theorem slD4_1_true_0 (z : Nat → Int) (L : List Int) (h : (!eqb (z 3) 0) = true) : TC Try.prog 68 (sq2 (sq2 in8)) (frL' (fe8 4 (.sl 1 0 L.length 1 true none) 1 0)) 2 (stL (s8' z L)) .normal (frL' (fo8 4 (.sl 1 0 L.length 1 true none) 1)) 2 (stL (s8' z L)) := by
  have e : (oSt (ev8 [(0, true), (1, true), (2, true), (3, true)] [] 2 (sq2 (sq2 in8)) (fe8 4 (.sl 1 0 L.length 1 true none) 1 0) (s8' z L))).ok = okT [(!eqb (z 3) 0) == true, (!eqb (z 3) 0) == true, (!eqb (z 3) 0) == true, (!eqb (z 3) 0) == true] true := by kernel_rfl
  exact tc8 (φ := [(0, true), (1, true), (2, true), (3, true)]) (nils := []) (by kernel_rfl) (e.trans (by rw [h]; rfl)) ⟨by kernel_rfl, by kernel_rfl, by kernel_rfl, by kernel_rfl, trivial⟩ (by kernel_rfl) ⟨by kernel_rfl, by kernel_rfl, trivial⟩
theorem slD4_1_false_0 (z : Nat → Int) (L : List Int) (h : (!eqb (z 3) 0) = false) : TC Try.prog 68 (sq2 (sq2 in8)) (frL' (fe8 4 (.sl 1 0 L.length 1 true none) 1 0)) 2 (stL (s8' z L)) .normal (frL' (fo8 4 (.sl 1 0 L.length 1 true none) 1)) 2 (stL (s8' z L)) := by
  have e : (oSt (ev8 [(0, false), (1, false), (2, false), (3, false)] [] 2 (sq2 (sq2 in8)) (fe8 4 (.sl 1 0 L.length 1 true none) 1 0) (s8' z L))).ok = okT [(!eqb (z 3) 0) == false, (!eqb (z 3) 0) == false, (!eqb (z 3) 0) == false, (!eqb (z 3) 0) == false] true := by kernel_rfl
  exact tc8 (φ := [(0, false), (1, false), (2, false), (3, false)]) (nils := []) (by kernel_rfl) (e.trans (by rw [h]; rfl)) ⟨by kernel_rfl, by kernel_rfl, by kernel_rfl, by kernel_rfl, trivial⟩ (by kernel_rfl) ⟨by kernel_rfl, by kernel_rfl, trivial⟩
theorem slR4_1 (z : Nat → Int) (L : List Int) (hL : L.length < 65536) (hLe : L = resL z 4) : TC Try.prog 68 o8 (frL' (fo8 4 (.sl 1 0 L.length 1 true none) 1)) 2 (stL (s8' z L)) .normal (frL' (fo8 4 (.sl 1 0 L.length 1 true none) 2)) 2 (stL (s8' z L)) := by
  rw [o8_eq]
  have hr := c4_1 z
  rw [← hLe] at hr
  have hc := hr
  cases hz : eqb (z 3) 0 with
  | false => exact TC.seq (slA1 z 4 L ) (TC.seq (TC.block (TC.seq (slB1 z 4 L ) (TC.seq (slI1 z 4 L hL 0 hc) (slD4_1_true_0 z L (by rw [hz]; rfl)))) (.inl rfl)) (slE1 z 4 L ))
  | true => exact TC.seq (slA1 z 4 L ) (TC.seq (TC.block (TC.seq (slB1 z 4 L ) (TC.seq (slI1 z 4 L hL 0 hc) (slD4_1_false_0 z L (by rw [hz]; rfl)))) (.inl rfl)) (slE1 z 4 L ))
theorem slD4_2_true_1 (z : Nat → Int) (L : List Int) (h : (!eqb (z 5) 0) = true) : TC Try.prog 68 (sq2 (sq2 in8)) (frL' (fe8 4 (.sl 1 0 L.length 1 true none) 2 1)) 2 (stL (s8' z L)) .normal (frL' (fo8 4 (.sl 1 0 L.length 1 true none) 2)) 2 (stL (s8' z L)) := by
  have e : (oSt (ev8 [(0, true), (1, true), (2, true), (3, true)] [] 2 (sq2 (sq2 in8)) (fe8 4 (.sl 1 0 L.length 1 true none) 2 1) (s8' z L))).ok = okT [(!eqb (z 5) 0) == true, (!eqb (z 5) 0) == true, (!eqb (z 5) 0) == true, (!eqb (z 5) 0) == true] true := by kernel_rfl
  exact tc8 (φ := [(0, true), (1, true), (2, true), (3, true)]) (nils := []) (by kernel_rfl) (e.trans (by rw [h]; rfl)) ⟨by kernel_rfl, by kernel_rfl, by kernel_rfl, by kernel_rfl, trivial⟩ (by kernel_rfl) ⟨by kernel_rfl, by kernel_rfl, trivial⟩
theorem slD4_2_false_0 (z : Nat → Int) (L : List Int) (h : (!eqb (z 5) 0) = false) : TC Try.prog 68 (sq2 (sq2 in8)) (frL' (fe8 4 (.sl 1 0 L.length 1 true none) 2 0)) 2 (stL (s8' z L)) .normal (frL' (fo8 4 (.sl 1 0 L.length 1 true none) 2)) 2 (stL (s8' z L)) := by
  have e : (oSt (ev8 [(0, false), (1, false), (2, false), (3, false)] [] 2 (sq2 (sq2 in8)) (fe8 4 (.sl 1 0 L.length 1 true none) 2 0) (s8' z L))).ok = okT [(!eqb (z 5) 0) == false, (!eqb (z 5) 0) == false, (!eqb (z 5) 0) == false, (!eqb (z 5) 0) == false] true := by kernel_rfl
  exact tc8 (φ := [(0, false), (1, false), (2, false), (3, false)]) (nils := []) (by kernel_rfl) (e.trans (by rw [h]; rfl)) ⟨by kernel_rfl, by kernel_rfl, by kernel_rfl, by kernel_rfl, trivial⟩ (by kernel_rfl) ⟨by kernel_rfl, by kernel_rfl, trivial⟩
theorem slD4_2_false_1 (z : Nat → Int) (L : List Int) (h : (!eqb (z 5) 0) = false) : TC Try.prog 68 (sq2 (sq2 in8)) (frL' (fe8 4 (.sl 1 0 L.length 1 true none) 2 1)) 2 (stL (s8' z L)) .normal (frL' (fo8 4 (.sl 1 0 L.length 1 true none) 2)) 2 (stL (s8' z L)) := by
  have e : (oSt (ev8 [(0, false), (1, false), (2, false), (3, false)] [] 2 (sq2 (sq2 in8)) (fe8 4 (.sl 1 0 L.length 1 true none) 2 1) (s8' z L))).ok = okT [(!eqb (z 5) 0) == false, (!eqb (z 5) 0) == false, (!eqb (z 5) 0) == false, (!eqb (z 5) 0) == false] true := by kernel_rfl
  exact tc8 (φ := [(0, false), (1, false), (2, false), (3, false)]) (nils := []) (by kernel_rfl) (e.trans (by rw [h]; rfl)) ⟨by kernel_rfl, by kernel_rfl, by kernel_rfl, by kernel_rfl, trivial⟩ (by kernel_rfl) ⟨by kernel_rfl, by kernel_rfl, trivial⟩
theorem slR4_2 (z : Nat → Int) (L : List Int) (hL : L.length < 65536) (hLe : L = resL z 4) : TC Try.prog 68 o8 (frL' (fo8 4 (.sl 1 0 L.length 1 true none) 2)) 2 (stL (s8' z L)) .normal (frL' (fo8 4 (.sl 1 0 L.length 1 true none) 3)) 2 (stL (s8' z L)) := by
  rw [o8_eq]
  have hr := c4_2 z
  rw [← hLe] at hr
  cases hz : eqb (z 5) 0 with
  | false =>
    have hc := hr.2 hz
    exact TC.seq (slA2 z 4 L ) (TC.seq (TC.block (TC.seq (slB2 z 4 L ) (TC.seq (slI2 z 4 L hL 1 hc) (slD4_2_true_1 z L (by rw [hz]; rfl)))) (.inl rfl)) (slE2 z 4 L ))
  | true =>
    rcases (show ucnt L 2 = 0 ∨ ucnt L 2 = 1 by omega) with hc | hc
    · exact TC.seq (slA2 z 4 L ) (TC.seq (TC.block (TC.seq (slB2 z 4 L ) (TC.seq (slI2 z 4 L hL 0 hc) (slD4_2_false_0 z L (by rw [hz]; rfl)))) (.inl rfl)) (slE2 z 4 L ))
    · exact TC.seq (slA2 z 4 L ) (TC.seq (TC.block (TC.seq (slB2 z 4 L ) (TC.seq (slI2 z 4 L hL 1 hc) (slD4_2_false_1 z L (by rw [hz]; rfl)))) (.inl rfl)) (slE2 z 4 L ))
theorem slD4_3_true_0 (z : Nat → Int) (L : List Int) (h : (!eqb (z 7) 0) = true) : TC Try.prog 68 (sq2 (sq2 in8)) (frL' (fe8 4 (.sl 1 0 L.length 1 true none) 3 0)) 2 (stL (s8' z L)) .normal (frL' (fo8 4 (.sl 1 0 L.length 1 true none) 3)) 2 (stL (s8' z L)) := by
  have e : (oSt (ev8 [(0, true), (1, true), (2, true), (3, true)] [] 2 (sq2 (sq2 in8)) (fe8 4 (.sl 1 0 L.length 1 true none) 3 0) (s8' z L))).ok = okT [(!eqb (z 7) 0) == true, (!eqb (z 7) 0) == true, (!eqb (z 7) 0) == true, (!eqb (z 7) 0) == true] true := by kernel_rfl
  exact tc8 (φ := [(0, true), (1, true), (2, true), (3, true)]) (nils := []) (by kernel_rfl) (e.trans (by rw [h]; rfl)) ⟨by kernel_rfl, by kernel_rfl, by kernel_rfl, by kernel_rfl, trivial⟩ (by kernel_rfl) ⟨by kernel_rfl, by kernel_rfl, trivial⟩
theorem slD4_3_false_0 (z : Nat → Int) (L : List Int) (h : (!eqb (z 7) 0) = false) : TC Try.prog 68 (sq2 (sq2 in8)) (frL' (fe8 4 (.sl 1 0 L.length 1 true none) 3 0)) 2 (stL (s8' z L)) .normal (frL' (fo8 4 (.sl 1 0 L.length 1 true none) 3)) 2 (stL (s8' z L)) := by
  have e : (oSt (ev8 [(0, false), (1, false), (2, false), (3, false)] [] 2 (sq2 (sq2 in8)) (fe8 4 (.sl 1 0 L.length 1 true none) 3 0) (s8' z L))).ok = okT [(!eqb (z 7) 0) == false, (!eqb (z 7) 0) == false, (!eqb (z 7) 0) == false, (!eqb (z 7) 0) == false] true := by kernel_rfl
  exact tc8 (φ := [(0, false), (1, false), (2, false), (3, false)]) (nils := []) (by kernel_rfl) (e.trans (by rw [h]; rfl)) ⟨by kernel_rfl, by kernel_rfl, by kernel_rfl, by kernel_rfl, trivial⟩ (by kernel_rfl) ⟨by kernel_rfl, by kernel_rfl, trivial⟩
theorem slR4_3 (z : Nat → Int) (L : List Int) (hL : L.length < 65536) (hLe : L = resL z 4) : TC Try.prog 68 o8 (frL' (fo8 4 (.sl 1 0 L.length 1 true none) 3)) 2 (stL (s8' z L)) .normal (frL' (fo8 4 (.sl 1 0 L.length 1 true none) 4)) 2 (stL (s8' z L)) := by
  rw [o8_eq]
  have hr := c4_3 z
  rw [← hLe] at hr
  have hc := hr
  cases hz : eqb (z 7) 0 with
  | false => exact TC.seq (slA3 z 4 L ) (TC.seq (TC.block (TC.seq (slB3 z 4 L ) (TC.seq (slI3 z 4 L hL 0 hc) (slD4_3_true_0 z L (by rw [hz]; rfl)))) (.inl rfl)) (slE3 z 4 L ))
  | true => exact TC.seq (slA3 z 4 L ) (TC.seq (TC.block (TC.seq (slB3 z 4 L ) (TC.seq (slI3 z 4 L hL 0 hc) (slD4_3_false_0 z L (by rw [hz]; rfl)))) (.inl rfl)) (slE3 z 4 L ))
theorem slD4_4_true_0 (z : Nat → Int) (L : List Int) (h : (!eqb (z 9) 0) = true) : TC Try.prog 68 (sq2 (sq2 in8)) (frL' (fe8 4 (.sl 1 0 L.length 1 true none) 4 0)) 2 (stL (s8' z L)) .normal (frL' (fo8 4 (.sl 1 0 L.length 1 true none) 4)) 2 (stL (s8' z L)) := by
  have e : (oSt (ev8 [(0, true), (1, true), (2, true), (3, true)] [] 2 (sq2 (sq2 in8)) (fe8 4 (.sl 1 0 L.length 1 true none) 4 0) (s8' z L))).ok = okT [(!eqb (z 9) 0) == true, (!eqb (z 9) 0) == true, (!eqb (z 9) 0) == true, (!eqb (z 9) 0) == true] true := by kernel_rfl
  exact tc8 (φ := [(0, true), (1, true), (2, true), (3, true)]) (nils := []) (by kernel_rfl) (e.trans (by rw [h]; rfl)) ⟨by kernel_rfl, by kernel_rfl, by kernel_rfl, by kernel_rfl, trivial⟩ (by kernel_rfl) ⟨by kernel_rfl, by kernel_rfl, trivial⟩
theorem slD4_4_false_0 (z : Nat → Int) (L : List Int) (h : (!eqb (z 9) 0) = false) : TC Try.prog 68 (sq2 (sq2 in8)) (frL' (fe8 4 (.sl 1 0 L.length 1 true none) 4 0)) 2 (stL (s8' z L)) .normal (frL' (fo8 4 (.sl 1 0 L.length 1 true none) 4)) 2 (stL (s8' z L)) := by
  have e : (oSt (ev8 [(0, false), (1, false), (2, false), (3, false)] [] 2 (sq2 (sq2 in8)) (fe8 4 (.sl 1 0 L.length 1 true none) 4 0) (s8' z L))).ok = okT [(!eqb (z 9) 0) == false, (!eqb (z 9) 0) == false, (!eqb (z 9) 0) == false, (!eqb (z 9) 0) == false] true := by kernel_rfl
  exact tc8 (φ := [(0, false), (1, false), (2, false), (3, false)]) (nils := []) (by kernel_rfl) (e.trans (by rw [h]; rfl)) ⟨by kernel_rfl, by kernel_rfl, by kernel_rfl, by kernel_rfl, trivial⟩ (by kernel_rfl) ⟨by kernel_rfl, by kernel_rfl, trivial⟩
theorem slR4_4 (z : Nat → Int) (L : List Int) (hL : L.length < 65536) (hLe : L = resL z 4) : TC Try.prog 68 o8 (frL' (fo8 4 (.sl 1 0 L.length 1 true none) 4)) 2 (stL (s8' z L)) .normal (frL' (fo8 4 (.sl 1 0 L.length 1 true none) 5)) 2 (stL (s8' z L)) := by
  rw [o8_eq]
  have hr := c4_4 z
  rw [← hLe] at hr
  have hc := hr
  cases hz : eqb (z 9) 0 with
  | false => exact TC.seq (slA4 z 4 L ) (TC.seq (TC.block (TC.seq (slB4 z 4 L ) (TC.seq (slI4 z 4 L hL 0 hc) (slD4_4_true_0 z L (by rw [hz]; rfl)))) (.inl rfl)) (slE4 z 4 L ))
  | true => exact TC.seq (slA4 z 4 L ) (TC.seq (TC.block (TC.seq (slB4 z 4 L ) (TC.seq (slI4 z 4 L hL 0 hc) (slD4_4_false_0 z L (by rw [hz]; rfl)))) (.inl rfl)) (slE4 z 4 L ))
theorem slD4_5_true_0 (z : Nat → Int) (L : List Int) (h : (!eqb (z 11) 0) = true) : TC Try.prog 68 (sq2 (sq2 in8)) (frL' (fe8 4 (.sl 1 0 L.length 1 true none) 5 0)) 2 (stL (s8' z L)) .normal (frL' (fo8 4 (.sl 1 0 L.length 1 true none) 5)) 2 (stL (s8' z L)) := by
  have e : (oSt (ev8 [(0, true), (1, true), (2, true), (3, true)] [] 2 (sq2 (sq2 in8)) (fe8 4 (.sl 1 0 L.length 1 true none) 5 0) (s8' z L))).ok = okT [(!eqb (z 11) 0) == true, (!eqb (z 11) 0) == true, (!eqb (z 11) 0) == true, (!eqb (z 11) 0) == true] true := by kernel_rfl
  exact tc8 (φ := [(0, true), (1, true), (2, true), (3, true)]) (nils := []) (by kernel_rfl) (e.trans (by rw [h]; rfl)) ⟨by kernel_rfl, by kernel_rfl, by kernel_rfl, by kernel_rfl, trivial⟩ (by kernel_rfl) ⟨by kernel_rfl, by kernel_rfl, trivial⟩
theorem slD4_5_false_0 (z : Nat → Int) (L : List Int) (h : (!eqb (z 11) 0) = false) : TC Try.prog 68 (sq2 (sq2 in8)) (frL' (fe8 4 (.sl 1 0 L.length 1 true none) 5 0)) 2 (stL (s8' z L)) .normal (frL' (fo8 4 (.sl 1 0 L.length 1 true none) 5)) 2 (stL (s8' z L)) := by
  have e : (oSt (ev8 [(0, false), (1, false), (2, false), (3, false)] [] 2 (sq2 (sq2 in8)) (fe8 4 (.sl 1 0 L.length 1 true none) 5 0) (s8' z L))).ok = okT [(!eqb (z 11) 0) == false, (!eqb (z 11) 0) == false, (!eqb (z 11) 0) == false, (!eqb (z 11) 0) == false] true := by kernel_rfl
  exact tc8 (φ := [(0, false), (1, false), (2, false), (3, false)]) (nils := []) (by kernel_rfl) (e.trans (by rw [h]; rfl)) ⟨by kernel_rfl, by kernel_rfl, by kernel_rfl, by kernel_rfl, trivial⟩ (by kernel_rfl) ⟨by kernel_rfl, by kernel_rfl, trivial⟩
theorem slR4_5 (z : Nat → Int) (L : List Int) (hL : L.length < 65536) (hLe : L = resL z 4) : TC Try.prog 68 o8 (frL' (fo8 4 (.sl 1 0 L.length 1 true none) 5)) 2 (stL (s8' z L)) .normal (frL' (fo8 4 (.sl 1 0 L.length 1 true none) 6)) 2 (stL (s8' z L)) := by
  rw [o8_eq]
  have hr := c4_5 z
  rw [← hLe] at hr
  have hc := hr
  cases hz : eqb (z 11) 0 with
  | false => exact TC.seq (slA5 z 4 L ) (TC.seq (TC.block (TC.seq (slB5 z 4 L ) (TC.seq (slI5 z 4 L hL 0 hc) (slD4_5_true_0 z L (by rw [hz]; rfl)))) (.inl rfl)) (slE5 z 4 L ))
  | true => exact TC.seq (slA5 z 4 L ) (TC.seq (TC.block (TC.seq (slB5 z 4 L ) (TC.seq (slI5 z 4 L hL 0 hc) (slD4_5_false_0 z L (by rw [hz]; rfl)))) (.inl rfl)) (slE5 z 4 L ))
theorem slD4_6_true_0 (z : Nat → Int) (L : List Int) (h : (!eqb (z 13) 0) = true) : TC Try.prog 68 (sq2 (sq2 in8)) (frL' (fe8 4 (.sl 1 0 L.length 1 true none) 6 0)) 2 (stL (s8' z L)) .normal (frL' (fo8 4 (.sl 1 0 L.length 1 true none) 6)) 2 (stL (s8' z L)) := by
  have e : (oSt (ev8 [(0, true), (1, true), (2, true), (3, true)] [] 2 (sq2 (sq2 in8)) (fe8 4 (.sl 1 0 L.length 1 true none) 6 0) (s8' z L))).ok = okT [(!eqb (z 13) 0) == true, (!eqb (z 13) 0) == true, (!eqb (z 13) 0) == true, (!eqb (z 13) 0) == true] true := by kernel_rfl
  exact tc8 (φ := [(0, true), (1, true), (2, true), (3, true)]) (nils := []) (by kernel_rfl) (e.trans (by rw [h]; rfl)) ⟨by kernel_rfl, by kernel_rfl, by kernel_rfl, by kernel_rfl, trivial⟩ (by kernel_rfl) ⟨by kernel_rfl, by kernel_rfl, trivial⟩
theorem slD4_6_false_0 (z : Nat → Int) (L : List Int) (h : (!eqb (z 13) 0) = false) : TC Try.prog 68 (sq2 (sq2 in8)) (frL' (fe8 4 (.sl 1 0 L.length 1 true none) 6 0)) 2 (stL (s8' z L)) .normal (frL' (fo8 4 (.sl 1 0 L.length 1 true none) 6)) 2 (stL (s8' z L)) := by
  have e : (oSt (ev8 [(0, false), (1, false), (2, false), (3, false)] [] 2 (sq2 (sq2 in8)) (fe8 4 (.sl 1 0 L.length 1 true none) 6 0) (s8' z L))).ok = okT [(!eqb (z 13) 0) == false, (!eqb (z 13) 0) == false, (!eqb (z 13) 0) == false, (!eqb (z 13) 0) == false] true := by kernel_rfl
  exact tc8 (φ := [(0, false), (1, false), (2, false), (3, false)]) (nils := []) (by kernel_rfl) (e.trans (by rw [h]; rfl)) ⟨by kernel_rfl, by kernel_rfl, by kernel_rfl, by kernel_rfl, trivial⟩ (by kernel_rfl) ⟨by kernel_rfl, by kernel_rfl, trivial⟩
theorem slR4_6 (z : Nat → Int) (L : List Int) (hL : L.length < 65536) (hLe : L = resL z 4) : TC Try.prog 68 o8 (frL' (fo8 4 (.sl 1 0 L.length 1 true none) 6)) 2 (stL (s8' z L)) .normal (frL' (fo8 4 (.sl 1 0 L.length 1 true none) 7)) 2 (stL (s8' z L)) := by
  rw [o8_eq]
  have hr := c4_6 z
  rw [← hLe] at hr
  have hc := hr
  cases hz : eqb (z 13) 0 with
  | false => exact TC.seq (slA6 z 4 L ) (TC.seq (TC.block (TC.seq (slB6 z 4 L ) (TC.seq (slI6 z 4 L hL 0 hc) (slD4_6_true_0 z L (by rw [hz]; rfl)))) (.inl rfl)) (slE6 z 4 L ))
  | true => exact TC.seq (slA6 z 4 L ) (TC.seq (TC.block (TC.seq (slB6 z 4 L ) (TC.seq (slI6 z 4 L hL 0 hc) (slD4_6_false_0 z L (by rw [hz]; rfl)))) (.inl rfl)) (slE6 z 4 L ))
theorem slD4_7_true_0 (z : Nat → Int) (L : List Int) (h : (!eqb (z 15) 0) = true) : TC Try.prog 68 (sq2 (sq2 in8)) (frL' (fe8 4 (.sl 1 0 L.length 1 true none) 7 0)) 2 (stL (s8' z L)) .normal (frL' (fo8 4 (.sl 1 0 L.length 1 true none) 7)) 2 (stL (s8' z L)) := by
  have e : (oSt (ev8 [(0, true), (1, true), (2, true), (3, true)] [] 2 (sq2 (sq2 in8)) (fe8 4 (.sl 1 0 L.length 1 true none) 7 0) (s8' z L))).ok = okT [(!eqb (z 15) 0) == true, (!eqb (z 15) 0) == true, (!eqb (z 15) 0) == true, (!eqb (z 15) 0) == true] true := by kernel_rfl
  exact tc8 (φ := [(0, true), (1, true), (2, true), (3, true)]) (nils := []) (by kernel_rfl) (e.trans (by rw [h]; rfl)) ⟨by kernel_rfl, by kernel_rfl, by kernel_rfl, by kernel_rfl, trivial⟩ (by kernel_rfl) ⟨by kernel_rfl, by kernel_rfl, trivial⟩
theorem slD4_7_false_0 (z : Nat → Int) (L : List Int) (h : (!eqb (z 15) 0) = false) : TC Try.prog 68 (sq2 (sq2 in8)) (frL' (fe8 4 (.sl 1 0 L.length 1 true none) 7 0)) 2 (stL (s8' z L)) .normal (frL' (fo8 4 (.sl 1 0 L.length 1 true none) 7)) 2 (stL (s8' z L)) := by
  have e : (oSt (ev8 [(0, false), (1, false), (2, false), (3, false)] [] 2 (sq2 (sq2 in8)) (fe8 4 (.sl 1 0 L.length 1 true none) 7 0) (s8' z L))).ok = okT [(!eqb (z 15) 0) == false, (!eqb (z 15) 0) == false, (!eqb (z 15) 0) == false, (!eqb (z 15) 0) == false] true := by kernel_rfl
  exact tc8 (φ := [(0, false), (1, false), (2, false), (3, false)]) (nils := []) (by kernel_rfl) (e.trans (by rw [h]; rfl)) ⟨by kernel_rfl, by kernel_rfl, by kernel_rfl, by kernel_rfl, trivial⟩ (by kernel_rfl) ⟨by kernel_rfl, by kernel_rfl, trivial⟩
theorem slR4_7 (z : Nat → Int) (L : List Int) (hL : L.length < 65536) (hLe : L = resL z 4) : TC Try.prog 68 o8 (frL' (fo8 4 (.sl 1 0 L.length 1 true none) 7)) 2 (stL (s8' z L)) .normal (frL' (fo8 4 (.sl 1 0 L.length 1 true none) 8)) 2 (stL (s8' z L)) := by
  rw [o8_eq]
  have hr := c4_7 z
  rw [← hLe] at hr
  have hc := hr
  cases hz : eqb (z 15) 0 with
  | false => exact TC.seq (slA7 z 4 L ) (TC.seq (TC.block (TC.seq (slB7 z 4 L ) (TC.seq (slI7 z 4 L hL 0 hc) (slD4_7_true_0 z L (by rw [hz]; rfl)))) (.inl rfl)) (slE7 z 4 L ))
  | true => exact TC.seq (slA7 z 4 L ) (TC.seq (TC.block (TC.seq (slB7 z 4 L ) (TC.seq (slI7 z 4 L hL 0 hc) (slD4_7_false_0 z L (by rw [hz]; rfl)))) (.inl rfl)) (slE7 z 4 L ))
theorem slW4 (z : Nat → Int) (L : List Int) (hL : L.length < 65536) (hLe : L = resL z 4) : TC Try.prog 68 (.seq (.seq (sq1 (sq1 (sq2 out8))) (.block 0 (.loop o8))) (sq2 (sq2 out8))) (frL' [(1, .sc (.int .i64 4)), (2, .ptr 0 0), (5, (.sl 1 0 L.length 1 true none))]) 2 (stL (s8' z L)) .ret (frL' [(4, .sc (.bool true))]) 2 (stL (s8' z L)) :=
  TC.seq (TC.seq (slS z 4 L ) (TC.block (TC.loop (k := 9) (TR.more (slR4_0 z L hL hLe) (TR.more (slR4_1 z L hL hLe) (TR.more (slR4_2 z L hL hLe) (TR.more (slR4_3 z L hL hLe) (TR.more (slR4_4 z L hL hLe) (TR.more (slR4_5 z L hL hLe) (TR.more (slR4_6 z L hL hLe) (TR.more (slR4_7 z L hL hLe) (TR.out (slX z 4 L ) (by simp))))))))))) (.inr rfl))) (slZ z L )
theorem slD5_0_true_0 (z : Nat → Int) (L : List Int) (h : (!eqb (z 1) 0) = true) : TC Try.prog 68 (sq2 (sq2 in8)) (frL' (fe8 5 (.sl 1 0 L.length 1 true none) 0 0)) 2 (stL (s8' z L)) .normal (frL' (fo8 5 (.sl 1 0 L.length 1 true none) 0)) 2 (stL (s8' z L)) := by
  have e : (oSt (ev8 [(0, true), (1, true), (2, true), (3, true)] [] 2 (sq2 (sq2 in8)) (fe8 5 (.sl 1 0 L.length 1 true none) 0 0) (s8' z L))).ok = okT [(!eqb (z 1) 0) == true, (!eqb (z 1) 0) == true, (!eqb (z 1) 0) == true, (!eqb (z 1) 0) == true] true := by kernel_rfl
  exact tc8 (φ := [(0, true), (1, true), (2, true), (3, true)]) (nils := []) (by kernel_rfl) (e.trans (by rw [h]; rfl)) ⟨by kernel_rfl, by kernel_rfl, by kernel_rfl, by kernel_rfl, trivial⟩ (by kernel_rfl) ⟨by kernel_rfl, by kernel_rfl, trivial⟩
theorem slD5_0_false_0 (z : Nat → Int) (L : List Int) (h : (!eqb (z 1) 0) = false) : TC Try.prog 68 (sq2 (sq2 in8)) (frL' (fe8 5 (.sl 1 0 L.length 1 true none) 0 0)) 2 (stL (s8' z L)) .normal (frL' (fo8 5 (.sl 1 0 L.length 1 true none) 0)) 2 (stL (s8' z L)) := by
  have e : (oSt (ev8 [(0, false), (1, false), (2, false), (3, false)] [] 2 (sq2 (sq2 in8)) (fe8 5 (.sl 1 0 L.length 1 true none) 0 0) (s8' z L))).ok = okT [(!eqb (z 1) 0) == false, (!eqb (z 1) 0) == false, (!eqb (z 1) 0) == false, (!eqb (z 1) 0) == false] true := by kernel_rfl
  exact tc8 (φ := [(0, false), (1, false), (2, false), (3, false)]) (nils := []) (by kernel_rfl) (e.trans (by rw [h]; rfl)) ⟨by kernel_rfl, by kernel_rfl, by kernel_rfl, by kernel_rfl, trivial⟩ (by kernel_rfl) ⟨by kernel_rfl, by kernel_rfl, trivial⟩
theorem slR5_0 (z : Nat → Int) (L : List Int) (hL : L.length < 65536) (hLe : L = resL z 5) : TC Try.prog 68 o8 (frL' (fo8 5 (.sl 1 0 L.length 1 true none) 0)) 2 (stL (s8' z L)) .normal (frL' (fo8 5 (.sl 1 0 L.length 1 true none) 1)) 2 (stL (s8' z L)) := by
  rw [o8_eq]
  have hr := c5_0 z
  rw [← hLe] at hr
  have hc := hr
  cases hz : eqb (z 1) 0 with
  | false => exact TC.seq (slA0 z 5 L ) (TC.seq (TC.block (TC.seq (slB0 z 5 L ) (TC.seq (slI0 z 5 L hL 0 hc) (slD5_0_true_0 z L (by rw [hz]; rfl)))) (.inl rfl)) (slE0 z 5 L ))
  | true => exact TC.seq (slA0 z 5 L ) (TC.seq (TC.block (TC.seq (slB0 z 5 L ) (TC.seq (slI0 z 5 L hL 0 hc) (slD5_0_false_0 z L (by rw [hz]; rfl)))) (.inl rfl)) (slE0 z 5 L ))
theorem slD5_1_true_0 (z : Nat → Int) (L : List Int) (h : (!eqb (z 3) 0) = true) : TC Try.prog 68 (sq2 (sq2 in8)) (frL' (fe8 5 (.sl 1 0 L.length 1 true none) 1 0)) 2 (stL (s8' z L)) .normal (frL' (fo8 5 (.sl 1 0 L.length 1 true none) 1)) 2 (stL (s8' z L)) := by
  have e : (oSt (ev8 [(0, true), (1, true), (2, true), (3, true)] [] 2 (sq2 (sq2 in8)) (fe8 5 (.sl 1 0 L.length 1 true none) 1 0) (s8' z L))).ok = okT [(!eqb (z 3) 0) == true, (!eqb (z 3) 0) == true, (!eqb (z 3) 0) == true, (!eqb (z 3) 0) == true] true := by kernel_rfl
  exact tc8 (φ := [(0, true), (1, true), (2, true), (3, true)]) (nils := []) (by kernel_rfl) (e.trans (by rw [h]; rfl)) ⟨by kernel_rfl, by kernel_rfl, by kernel_rfl, by kernel_rfl, trivial⟩ (by kernel_rfl) ⟨by kernel_rfl, by kernel_rfl, trivial⟩
theorem slD5_1_false_0 (z : Nat → Int) (L : List Int) (h : (!eqb (z 3) 0) = false) : TC Try.prog 68 (sq2 (sq2 in8)) (frL' (fe8 5 (.sl 1 0 L.length 1 true none) 1 0)) 2 (stL (s8' z L)) .normal (frL' (fo8 5 (.sl 1 0 L.length 1 true none) 1)) 2 (stL (s8' z L)) := by
  have e : (oSt (ev8 [(0, false), (1, false), (2, false), (3, false)] [] 2 (sq2 (sq2 in8)) (fe8 5 (.sl 1 0 L.length 1 true none) 1 0) (s8' z L))).ok = okT [(!eqb (z 3) 0) == false, (!eqb (z 3) 0) == false, (!eqb (z 3) 0) == false, (!eqb (z 3) 0) == false] true := by kernel_rfl
  exact tc8 (φ := [(0, false), (1, false), (2, false), (3, false)]) (nils := []) (by kernel_rfl) (e.trans (by rw [h]; rfl)) ⟨by kernel_rfl, by kernel_rfl, by kernel_rfl, by kernel_rfl, trivial⟩ (by kernel_rfl) ⟨by kernel_rfl, by kernel_rfl, trivial⟩
theorem slR5_1 (z : Nat → Int) (L : List Int) (hL : L.length < 65536) (hLe : L = resL z 5) : TC Try.prog 68 o8 (frL' (fo8 5 (.sl 1 0 L.length 1 true none) 1)) 2 (stL (s8' z L)) .normal (frL' (fo8 5 (.sl 1 0 L.length 1 true none) 2)) 2 (stL (s8' z L)) := by
  rw [o8_eq]
  have hr := c5_1 z
  rw [← hLe] at hr
  have hc := hr
  cases hz : eqb (z 3) 0 with
  | false => exact TC.seq (slA1 z 5 L ) (TC.seq (TC.block (TC.seq (slB1 z 5 L ) (TC.seq (slI1 z 5 L hL 0 hc) (slD5_1_true_0 z L (by rw [hz]; rfl)))) (.inl rfl)) (slE1 z 5 L ))
  | true => exact TC.seq (slA1 z 5 L ) (TC.seq (TC.block (TC.seq (slB1 z 5 L ) (TC.seq (slI1 z 5 L hL 0 hc) (slD5_1_false_0 z L (by rw [hz]; rfl)))) (.inl rfl)) (slE1 z 5 L ))
theorem slD5_2_true_1 (z : Nat → Int) (L : List Int) (h : (!eqb (z 5) 0) = true) : TC Try.prog 68 (sq2 (sq2 in8)) (frL' (fe8 5 (.sl 1 0 L.length 1 true none) 2 1)) 2 (stL (s8' z L)) .normal (frL' (fo8 5 (.sl 1 0 L.length 1 true none) 2)) 2 (stL (s8' z L)) := by
  have e : (oSt (ev8 [(0, true), (1, true), (2, true), (3, true)] [] 2 (sq2 (sq2 in8)) (fe8 5 (.sl 1 0 L.length 1 true none) 2 1) (s8' z L))).ok = okT [(!eqb (z 5) 0) == true, (!eqb (z 5) 0) == true, (!eqb (z 5) 0) == true, (!eqb (z 5) 0) == true] true := by kernel_rfl
  exact tc8 (φ := [(0, true), (1, true), (2, true), (3, true)]) (nils := []) (by kernel_rfl) (e.trans (by rw [h]; rfl)) ⟨by kernel_rfl, by kernel_rfl, by kernel_rfl, by kernel_rfl, trivial⟩ (by kernel_rfl) ⟨by kernel_rfl, by kernel_rfl, trivial⟩
theorem slD5_2_false_0 (z : Nat → Int) (L : List Int) (h : (!eqb (z 5) 0) = false) : TC Try.prog 68 (sq2 (sq2 in8)) (frL' (fe8 5 (.sl 1 0 L.length 1 true none) 2 0)) 2 (stL (s8' z L)) .normal (frL' (fo8 5 (.sl 1 0 L.length 1 true none) 2)) 2 (stL (s8' z L)) := by
  have e : (oSt (ev8 [(0, false), (1, false), (2, false), (3, false)] [] 2 (sq2 (sq2 in8)) (fe8 5 (.sl 1 0 L.length 1 true none) 2 0) (s8' z L))).ok = okT [(!eqb (z 5) 0) == false, (!eqb (z 5) 0) == false, (!eqb (z 5) 0) == false, (!eqb (z 5) 0) == false] true := by kernel_rfl
  exact tc8 (φ := [(0, false), (1, false), (2, false), (3, false)]) (nils := []) (by kernel_rfl) (e.trans (by rw [h]; rfl)) ⟨by kernel_rfl, by kernel_rfl, by kernel_rfl, by kernel_rfl, trivial⟩ (by kernel_rfl) ⟨by kernel_rfl, by kernel_rfl, trivial⟩
theorem slD5_2_false_1 (z : Nat → Int) (L : List Int) (h : (!eqb (z 5) 0) = false) : TC Try.prog 68 (sq2 (sq2 in8)) (frL' (fe8 5 (.sl 1 0 L.length 1 true none) 2 1)) 2 (stL (s8' z L)) .normal (frL' (fo8 5 (.sl 1 0 L.length 1 true none) 2)) 2 (stL (s8' z L)) := by
  have e : (oSt (ev8 [(0, false), (1, false), (2, false), (3, false)] [] 2 (sq2 (sq2 in8)) (fe8 5 (.sl 1 0 L.length 1 true none) 2 1) (s8' z L))).ok = okT [(!eqb (z 5) 0) == false, (!eqb (z 5) 0) == false, (!eqb (z 5) 0) == false, (!eqb (z 5) 0) == false] true := by kernel_rfl
  exact tc8 (φ := [(0, false), (1, false), (2, false), (3, false)]) (nils := []) (by kernel_rfl) (e.trans (by rw [h]; rfl)) ⟨by kernel_rfl, by kernel_rfl, by kernel_rfl, by kernel_rfl, trivial⟩ (by kernel_rfl) ⟨by kernel_rfl, by kernel_rfl, trivial⟩
theorem slR5_2 (z : Nat → Int) (L : List Int) (hL : L.length < 65536) (hLe : L = resL z 5) : TC Try.prog 68 o8 (frL' (fo8 5 (.sl 1 0 L.length 1 true none) 2)) 2 (stL (s8' z L)) .normal (frL' (fo8 5 (.sl 1 0 L.length 1 true none) 3)) 2 (stL (s8' z L)) := by
  rw [o8_eq]
  have hr := c5_2 z
  rw [← hLe] at hr
  cases hz : eqb (z 5) 0 with
  | false =>
    have hc := hr.2 hz
    exact TC.seq (slA2 z 5 L ) (TC.seq (TC.block (TC.seq (slB2 z 5 L ) (TC.seq (slI2 z 5 L hL 1 hc) (slD5_2_true_1 z L (by rw [hz]; rfl)))) (.inl rfl)) (slE2 z 5 L ))
  | true =>
    rcases (show ucnt L 2 = 0 ∨ ucnt L 2 = 1 by omega) with hc | hc
    · exact TC.seq (slA2 z 5 L ) (TC.seq (TC.block (TC.seq (slB2 z 5 L ) (TC.seq (slI2 z 5 L hL 0 hc) (slD5_2_false_0 z L (by rw [hz]; rfl)))) (.inl rfl)) (slE2 z 5 L ))
    · exact TC.seq (slA2 z 5 L ) (TC.seq (TC.block (TC.seq (slB2 z 5 L ) (TC.seq (slI2 z 5 L hL 1 hc) (slD5_2_false_1 z L (by rw [hz]; rfl)))) (.inl rfl)) (slE2 z 5 L ))
theorem slD5_3_true_1 (z : Nat → Int) (L : List Int) (h : (!eqb (z 7) 0) = true) : TC Try.prog 68 (sq2 (sq2 in8)) (frL' (fe8 5 (.sl 1 0 L.length 1 true none) 3 1)) 2 (stL (s8' z L)) .normal (frL' (fo8 5 (.sl 1 0 L.length 1 true none) 3)) 2 (stL (s8' z L)) := by
  have e : (oSt (ev8 [(0, true), (1, true), (2, true), (3, true)] [] 2 (sq2 (sq2 in8)) (fe8 5 (.sl 1 0 L.length 1 true none) 3 1) (s8' z L))).ok = okT [(!eqb (z 7) 0) == true, (!eqb (z 7) 0) == true, (!eqb (z 7) 0) == true, (!eqb (z 7) 0) == true] true := by kernel_rfl
  exact tc8 (φ := [(0, true), (1, true), (2, true), (3, true)]) (nils := []) (by kernel_rfl) (e.trans (by rw [h]; rfl)) ⟨by kernel_rfl, by kernel_rfl, by kernel_rfl, by kernel_rfl, trivial⟩ (by kernel_rfl) ⟨by kernel_rfl, by kernel_rfl, trivial⟩
theorem slD5_3_false_0 (z : Nat → Int) (L : List Int) (h : (!eqb (z 7) 0) = false) : TC Try.prog 68 (sq2 (sq2 in8)) (frL' (fe8 5 (.sl 1 0 L.length 1 true none) 3 0)) 2 (stL (s8' z L)) .normal (frL' (fo8 5 (.sl 1 0 L.length 1 true none) 3)) 2 (stL (s8' z L)) := by
  have e : (oSt (ev8 [(0, false), (1, false), (2, false), (3, false)] [] 2 (sq2 (sq2 in8)) (fe8 5 (.sl 1 0 L.length 1 true none) 3 0) (s8' z L))).ok = okT [(!eqb (z 7) 0) == false, (!eqb (z 7) 0) == false, (!eqb (z 7) 0) == false, (!eqb (z 7) 0) == false] true := by kernel_rfl
  exact tc8 (φ := [(0, false), (1, false), (2, false), (3, false)]) (nils := []) (by kernel_rfl) (e.trans (by rw [h]; rfl)) ⟨by kernel_rfl, by kernel_rfl, by kernel_rfl, by kernel_rfl, trivial⟩ (by kernel_rfl) ⟨by kernel_rfl, by kernel_rfl, trivial⟩
theorem slD5_3_false_1 (z : Nat → Int) (L : List Int) (h : (!eqb (z 7) 0) = false) : TC Try.prog 68 (sq2 (sq2 in8)) (frL' (fe8 5 (.sl 1 0 L.length 1 true none) 3 1)) 2 (stL (s8' z L)) .normal (frL' (fo8 5 (.sl 1 0 L.length 1 true none) 3)) 2 (stL (s8' z L)) := by
  have e : (oSt (ev8 [(0, false), (1, false), (2, false), (3, false)] [] 2 (sq2 (sq2 in8)) (fe8 5 (.sl 1 0 L.length 1 true none) 3 1) (s8' z L))).ok = okT [(!eqb (z 7) 0) == false, (!eqb (z 7) 0) == false, (!eqb (z 7) 0) == false, (!eqb (z 7) 0) == false] true := by kernel_rfl
  exact tc8 (φ := [(0, false), (1, false), (2, false), (3, false)]) (nils := []) (by kernel_rfl) (e.trans (by rw [h]; rfl)) ⟨by kernel_rfl, by kernel_rfl, by kernel_rfl, by kernel_rfl, trivial⟩ (by kernel_rfl) ⟨by kernel_rfl, by kernel_rfl, trivial⟩
theorem slR5_3 (z : Nat → Int) (L : List Int) (hL : L.length < 65536) (hLe : L = resL z 5) : TC Try.prog 68 o8 (frL' (fo8 5 (.sl 1 0 L.length 1 true none) 3)) 2 (stL (s8' z L)) .normal (frL' (fo8 5 (.sl 1 0 L.length 1 true none) 4)) 2 (stL (s8' z L)) := by
  rw [o8_eq]
  have hr := c5_3 z
  rw [← hLe] at hr
  cases hz : eqb (z 7) 0 with
  | false =>
    have hc := hr.2 hz
    exact TC.seq (slA3 z 5 L ) (TC.seq (TC.block (TC.seq (slB3 z 5 L ) (TC.seq (slI3 z 5 L hL 1 hc) (slD5_3_true_1 z L (by rw [hz]; rfl)))) (.inl rfl)) (slE3 z 5 L ))
  | true =>
    rcases (show ucnt L 3 = 0 ∨ ucnt L 3 = 1 by omega) with hc | hc
    · exact TC.seq (slA3 z 5 L ) (TC.seq (TC.block (TC.seq (slB3 z 5 L ) (TC.seq (slI3 z 5 L hL 0 hc) (slD5_3_false_0 z L (by rw [hz]; rfl)))) (.inl rfl)) (slE3 z 5 L ))
    · exact TC.seq (slA3 z 5 L ) (TC.seq (TC.block (TC.seq (slB3 z 5 L ) (TC.seq (slI3 z 5 L hL 1 hc) (slD5_3_false_1 z L (by rw [hz]; rfl)))) (.inl rfl)) (slE3 z 5 L ))
theorem slD5_4_true_0 (z : Nat → Int) (L : List Int) (h : (!eqb (z 9) 0) = true) : TC Try.prog 68 (sq2 (sq2 in8)) (frL' (fe8 5 (.sl 1 0 L.length 1 true none) 4 0)) 2 (stL (s8' z L)) .normal (frL' (fo8 5 (.sl 1 0 L.length 1 true none) 4)) 2 (stL (s8' z L)) := by
  have e : (oSt (ev8 [(0, true), (1, true), (2, true), (3, true)] [] 2 (sq2 (sq2 in8)) (fe8 5 (.sl 1 0 L.length 1 true none) 4 0) (s8' z L))).ok = okT [(!eqb (z 9) 0) == true, (!eqb (z 9) 0) == true, (!eqb (z 9) 0) == true, (!eqb (z 9) 0) == true] true := by kernel_rfl
  exact tc8 (φ := [(0, true), (1, true), (2, true), (3, true)]) (nils := []) (by kernel_rfl) (e.trans (by rw [h]; rfl)) ⟨by kernel_rfl, by kernel_rfl, by kernel_rfl, by kernel_rfl, trivial⟩ (by kernel_rfl) ⟨by kernel_rfl, by kernel_rfl, trivial⟩
theorem slD5_4_false_0 (z : Nat → Int) (L : List Int) (h : (!eqb (z 9) 0) = false) : TC Try.prog 68 (sq2 (sq2 in8)) (frL' (fe8 5 (.sl 1 0 L.length 1 true none) 4 0)) 2 (stL (s8' z L)) .normal (frL' (fo8 5 (.sl 1 0 L.length 1 true none) 4)) 2 (stL (s8' z L)) := by
  have e : (oSt (ev8 [(0, false), (1, false), (2, false), (3, false)] [] 2 (sq2 (sq2 in8)) (fe8 5 (.sl 1 0 L.length 1 true none) 4 0) (s8' z L))).ok = okT [(!eqb (z 9) 0) == false, (!eqb (z 9) 0) == false, (!eqb (z 9) 0) == false, (!eqb (z 9) 0) == false] true := by kernel_rfl
  exact tc8 (φ := [(0, false), (1, false), (2, false), (3, false)]) (nils := []) (by kernel_rfl) (e.trans (by rw [h]; rfl)) ⟨by kernel_rfl, by kernel_rfl, by kernel_rfl, by kernel_rfl, trivial⟩ (by kernel_rfl) ⟨by kernel_rfl, by kernel_rfl, trivial⟩
theorem slR5_4 (z : Nat → Int) (L : List Int) (hL : L.length < 65536) (hLe : L = resL z 5) : TC Try.prog 68 o8 (frL' (fo8 5 (.sl 1 0 L.length 1 true none) 4)) 2 (stL (s8' z L)) .normal (frL' (fo8 5 (.sl 1 0 L.length 1 true none) 5)) 2 (stL (s8' z L)) := by
  rw [o8_eq]
  have hr := c5_4 z
  rw [← hLe] at hr
  have hc := hr
  cases hz : eqb (z 9) 0 with
  | false => exact TC.seq (slA4 z 5 L ) (TC.seq (TC.block (TC.seq (slB4 z 5 L ) (TC.seq (slI4 z 5 L hL 0 hc) (slD5_4_true_0 z L (by rw [hz]; rfl)))) (.inl rfl)) (slE4 z 5 L ))
  | true => exact TC.seq (slA4 z 5 L ) (TC.seq (TC.block (TC.seq (slB4 z 5 L ) (TC.seq (slI4 z 5 L hL 0 hc) (slD5_4_false_0 z L (by rw [hz]; rfl)))) (.inl rfl)) (slE4 z 5 L ))
theorem slD5_5_true_0 (z : Nat → Int) (L : List Int) (h : (!eqb (z 11) 0) = true) : TC Try.prog 68 (sq2 (sq2 in8)) (frL' (fe8 5 (.sl 1 0 L.length 1 true none) 5 0)) 2 (stL (s8' z L)) .normal (frL' (fo8 5 (.sl 1 0 L.length 1 true none) 5)) 2 (stL (s8' z L)) := by
  have e : (oSt (ev8 [(0, true), (1, true), (2, true), (3, true)] [] 2 (sq2 (sq2 in8)) (fe8 5 (.sl 1 0 L.length 1 true none) 5 0) (s8' z L))).ok = okT [(!eqb (z 11) 0) == true, (!eqb (z 11) 0) == true, (!eqb (z 11) 0) == true, (!eqb (z 11) 0) == true] true := by kernel_rfl
  exact tc8 (φ := [(0, true), (1, true), (2, true), (3, true)]) (nils := []) (by kernel_rfl) (e.trans (by rw [h]; rfl)) ⟨by kernel_rfl, by kernel_rfl, by kernel_rfl, by kernel_rfl, trivial⟩ (by kernel_rfl) ⟨by kernel_rfl, by kernel_rfl, trivial⟩
theorem slD5_5_false_0 (z : Nat → Int) (L : List Int) (h : (!eqb (z 11) 0) = false) : TC Try.prog 68 (sq2 (sq2 in8)) (frL' (fe8 5 (.sl 1 0 L.length 1 true none) 5 0)) 2 (stL (s8' z L)) .normal (frL' (fo8 5 (.sl 1 0 L.length 1 true none) 5)) 2 (stL (s8' z L)) := by
  have e : (oSt (ev8 [(0, false), (1, false), (2, false), (3, false)] [] 2 (sq2 (sq2 in8)) (fe8 5 (.sl 1 0 L.length 1 true none) 5 0) (s8' z L))).ok = okT [(!eqb (z 11) 0) == false, (!eqb (z 11) 0) == false, (!eqb (z 11) 0) == false, (!eqb (z 11) 0) == false] true := by kernel_rfl
  exact tc8 (φ := [(0, false), (1, false), (2, false), (3, false)]) (nils := []) (by kernel_rfl) (e.trans (by rw [h]; rfl)) ⟨by kernel_rfl, by kernel_rfl, by kernel_rfl, by kernel_rfl, trivial⟩ (by kernel_rfl) ⟨by kernel_rfl, by kernel_rfl, trivial⟩
theorem slR5_5 (z : Nat → Int) (L : List Int) (hL : L.length < 65536) (hLe : L = resL z 5) : TC Try.prog 68 o8 (frL' (fo8 5 (.sl 1 0 L.length 1 true none) 5)) 2 (stL (s8' z L)) .normal (frL' (fo8 5 (.sl 1 0 L.length 1 true none) 6)) 2 (stL (s8' z L)) := by
  rw [o8_eq]
  have hr := c5_5 z
  rw [← hLe] at hr
  have hc := hr
  cases hz : eqb (z 11) 0 with
  | false => exact TC.seq (slA5 z 5 L ) (TC.seq (TC.block (TC.seq (slB5 z 5 L ) (TC.seq (slI5 z 5 L hL 0 hc) (slD5_5_true_0 z L (by rw [hz]; rfl)))) (.inl rfl)) (slE5 z 5 L ))
  | true => exact TC.seq (slA5 z 5 L ) (TC.seq (TC.block (TC.seq (slB5 z 5 L ) (TC.seq (slI5 z 5 L hL 0 hc) (slD5_5_false_0 z L (by rw [hz]; rfl)))) (.inl rfl)) (slE5 z 5 L ))
theorem slD5_6_true_0 (z : Nat → Int) (L : List Int) (h : (!eqb (z 13) 0) = true) : TC Try.prog 68 (sq2 (sq2 in8)) (frL' (fe8 5 (.sl 1 0 L.length 1 true none) 6 0)) 2 (stL (s8' z L)) .normal (frL' (fo8 5 (.sl 1 0 L.length 1 true none) 6)) 2 (stL (s8' z L)) := by
  have e : (oSt (ev8 [(0, true), (1, true), (2, true), (3, true)] [] 2 (sq2 (sq2 in8)) (fe8 5 (.sl 1 0 L.length 1 true none) 6 0) (s8' z L))).ok = okT [(!eqb (z 13) 0) == true, (!eqb (z 13) 0) == true, (!eqb (z 13) 0) == true, (!eqb (z 13) 0) == true] true := by kernel_rfl
  exact tc8 (φ := [(0, true), (1, true), (2, true), (3, true)]) (nils := []) (by kernel_rfl) (e.trans (by rw [h]; rfl)) ⟨by kernel_rfl, by kernel_rfl, by kernel_rfl, by kernel_rfl, trivial⟩ (by kernel_rfl) ⟨by kernel_rfl, by kernel_rfl, trivial⟩
theorem slD5_6_false_0 (z : Nat → Int) (L : List Int) (h : (!eqb (z 13) 0) = false) : TC Try.prog 68 (sq2 (sq2 in8)) (frL' (fe8 5 (.sl 1 0 L.length 1 true none) 6 0)) 2 (stL (s8' z L)) .normal (frL' (fo8 5 (.sl 1 0 L.length 1 true none) 6)) 2 (stL (s8' z L)) := by
  have e : (oSt (ev8 [(0, false), (1, false), (2, false), (3, false)] [] 2 (sq2 (sq2 in8)) (fe8 5 (.sl 1 0 L.length 1 true none) 6 0) (s8' z L))).ok = okT [(!eqb (z 13) 0) == false, (!eqb (z 13) 0) == false, (!eqb (z 13) 0) == false, (!eqb (z 13) 0) == false] true := by kernel_rfl
  exact tc8 (φ := [(0, false), (1, false), (2, false), (3, false)]) (nils := []) (by kernel_rfl) (e.trans (by rw [h]; rfl)) ⟨by kernel_rfl, by kernel_rfl, by kernel_rfl, by kernel_rfl, trivial⟩ (by kernel_rfl) ⟨by kernel_rfl, by kernel_rfl, trivial⟩
theorem slR5_6 (z : Nat → Int) (L : List Int) (hL : L.length < 65536) (hLe : L = resL z 5) : TC Try.prog 68 o8 (frL' (fo8 5 (.sl 1 0 L.length 1 true none) 6)) 2 (stL (s8' z L)) .normal (frL' (fo8 5 (.sl 1 0 L.length 1 true none) 7)) 2 (stL (s8' z L)) := by
  rw [o8_eq]
  have hr := c5_6 z
  rw [← hLe] at hr
  have hc := hr
  cases hz : eqb (z 13) 0 with
  | false => exact TC.seq (slA6 z 5 L ) (TC.seq (TC.block (TC.seq (slB6 z 5 L ) (TC.seq (slI6 z 5 L hL 0 hc) (slD5_6_true_0 z L (by rw [hz]; rfl)))) (.inl rfl)) (slE6 z 5 L ))
  | true => exact TC.seq (slA6 z 5 L ) (TC.seq (TC.block (TC.seq (slB6 z 5 L ) (TC.seq (slI6 z 5 L hL 0 hc) (slD5_6_false_0 z L (by rw [hz]; rfl)))) (.inl rfl)) (slE6 z 5 L ))
theorem slD5_7_true_0 (z : Nat → Int) (L : List Int) (h : (!eqb (z 15) 0) = true) : TC Try.prog 68 (sq2 (sq2 in8)) (frL' (fe8 5 (.sl 1 0 L.length 1 true none) 7 0)) 2 (stL (s8' z L)) .normal (frL' (fo8 5 (.sl 1 0 L.length 1 true none) 7)) 2 (stL (s8' z L)) := by
  have e : (oSt (ev8 [(0, true), (1, true), (2, true), (3, true)] [] 2 (sq2 (sq2 in8)) (fe8 5 (.sl 1 0 L.length 1 true none) 7 0) (s8' z L))).ok = okT [(!eqb (z 15) 0) == true, (!eqb (z 15) 0) == true, (!eqb (z 15) 0) == true, (!eqb (z 15) 0) == true] true := by kernel_rfl
  exact tc8 (φ := [(0, true), (1, true), (2, true), (3, true)]) (nils := []) (by kernel_rfl) (e.trans (by rw [h]; rfl)) ⟨by kernel_rfl, by kernel_rfl, by kernel_rfl, by kernel_rfl, trivial⟩ (by kernel_rfl) ⟨by kernel_rfl, by kernel_rfl, trivial⟩
theorem slD5_7_false_0 (z : Nat → Int) (L : List Int) (h : (!eqb (z 15) 0) = false) : TC Try.prog 68 (sq2 (sq2 in8)) (frL' (fe8 5 (.sl 1 0 L.length 1 true none) 7 0)) 2 (stL (s8' z L)) .normal (frL' (fo8 5 (.sl 1 0 L.length 1 true none) 7)) 2 (stL (s8' z L)) := by
  have e : (oSt (ev8 [(0, false), (1, false), (2, false), (3, false)] [] 2 (sq2 (sq2 in8)) (fe8 5 (.sl 1 0 L.length 1 true none) 7 0) (s8' z L))).ok = okT [(!eqb (z 15) 0) == false, (!eqb (z 15) 0) == false, (!eqb (z 15) 0) == false, (!eqb (z 15) 0) == false] true := by kernel_rfl
  exact tc8 (φ := [(0, false), (1, false), (2, false), (3, false)]) (nils := []) (by kernel_rfl) (e.trans (by rw [h]; rfl)) ⟨by kernel_rfl, by kernel_rfl, by kernel_rfl, by kernel_rfl, trivial⟩ (by kernel_rfl) ⟨by kernel_rfl, by kernel_rfl, trivial⟩
theorem slR5_7 (z : Nat → Int) (L : List Int) (hL : L.length < 65536) (hLe : L = resL z 5) : TC Try.prog 68 o8 (frL' (fo8 5 (.sl 1 0 L.length 1 true none) 7)) 2 (stL (s8' z L)) .normal (frL' (fo8 5 (.sl 1 0 L.length 1 true none) 8)) 2 (stL (s8' z L)) := by
  rw [o8_eq]
  have hr := c5_7 z
  rw [← hLe] at hr
  have hc := hr
  cases hz : eqb (z 15) 0 with
  | false => exact TC.seq (slA7 z 5 L ) (TC.seq (TC.block (TC.seq (slB7 z 5 L ) (TC.seq (slI7 z 5 L hL 0 hc) (slD5_7_true_0 z L (by rw [hz]; rfl)))) (.inl rfl)) (slE7 z 5 L ))
  | true => exact TC.seq (slA7 z 5 L ) (TC.seq (TC.block (TC.seq (slB7 z 5 L ) (TC.seq (slI7 z 5 L hL 0 hc) (slD5_7_false_0 z L (by rw [hz]; rfl)))) (.inl rfl)) (slE7 z 5 L ))
theorem slW5 (z : Nat → Int) (L : List Int) (hL : L.length < 65536) (hLe : L = resL z 5) : TC Try.prog 68 (.seq (.seq (sq1 (sq1 (sq2 out8))) (.block 0 (.loop o8))) (sq2 (sq2 out8))) (frL' [(1, .sc (.int .i64 5)), (2, .ptr 0 0), (5, (.sl 1 0 L.length 1 true none))]) 2 (stL (s8' z L)) .ret (frL' [(4, .sc (.bool true))]) 2 (stL (s8' z L)) :=
  TC.seq (TC.seq (slS z 5 L ) (TC.block (TC.loop (k := 9) (TR.more (slR5_0 z L hL hLe) (TR.more (slR5_1 z L hL hLe) (TR.more (slR5_2 z L hL hLe) (TR.more (slR5_3 z L hL hLe) (TR.more (slR5_4 z L hL hLe) (TR.more (slR5_5 z L hL hLe) (TR.more (slR5_6 z L hL hLe) (TR.more (slR5_7 z L hL hLe) (TR.out (slX z 5 L ) (by simp))))))))))) (.inr rfl))) (slZ z L )
theorem slD6_0_true_0 (z : Nat → Int) (L : List Int) (h : (!eqb (z 1) 0) = true) : TC Try.prog 68 (sq2 (sq2 in8)) (frL' (fe8 6 (.sl 1 0 L.length 1 true none) 0 0)) 2 (stL (s8' z L)) .normal (frL' (fo8 6 (.sl 1 0 L.length 1 true none) 0)) 2 (stL (s8' z L)) := by
  have e : (oSt (ev8 [(0, true), (1, true), (2, true), (3, true)] [] 2 (sq2 (sq2 in8)) (fe8 6 (.sl 1 0 L.length 1 true none) 0 0) (s8' z L))).ok = okT [(!eqb (z 1) 0) == true, (!eqb (z 1) 0) == true, (!eqb (z 1) 0) == true, (!eqb (z 1) 0) == true] true := by kernel_rfl
  exact tc8 (φ := [(0, true), (1, true), (2, true), (3, true)]) (nils := []) (by kernel_rfl) (e.trans (by rw [h]; rfl)) ⟨by kernel_rfl, by kernel_rfl, by kernel_rfl, by kernel_rfl, trivial⟩ (by kernel_rfl) ⟨by kernel_rfl, by kernel_rfl, trivial⟩
theorem slD6_0_false_0 (z : Nat → Int) (L : List Int) (h : (!eqb (z 1) 0) = false) : TC Try.prog 68 (sq2 (sq2 in8)) (frL' (fe8 6 (.sl 1 0 L.length 1 true none) 0 0)) 2 (stL (s8' z L)) .normal (frL' (fo8 6 (.sl 1 0 L.length 1 true none) 0)) 2 (stL (s8' z L)) := by
  have e : (oSt (ev8 [(0, false), (1, false), (2, false), (3, false)] [] 2 (sq2 (sq2 in8)) (fe8 6 (.sl 1 0 L.length 1 true none) 0 0) (s8' z L))).ok = okT [(!eqb (z 1) 0) == false, (!eqb (z 1) 0) == false, (!eqb (z 1) 0) == false, (!eqb (z 1) 0) == false] true := by kernel_rfl
  exact tc8 (φ := [(0, false), (1, false), (2, false), (3, false)]) (nils := []) (by kernel_rfl) (e.trans (by rw [h]; rfl)) ⟨by kernel_rfl, by kernel_rfl, by kernel_rfl, by kernel_rfl, trivial⟩ (by kernel_rfl) ⟨by kernel_rfl, by kernel_rfl, trivial⟩
theorem slR6_0 (z : Nat → Int) (L : List Int) (hL : L.length < 65536) (hLe : L = resL z 6) : TC Try.prog 68 o8 (frL' (fo8 6 (.sl 1 0 L.length 1 true none) 0)) 2 (stL (s8' z L)) .normal (frL' (fo8 6 (.sl 1 0 L.length 1 true none) 1)) 2 (stL (s8' z L)) := by
  rw [o8_eq]
  have hr := c6_0 z
  rw [← hLe] at hr
  have hc := hr
  cases hz : eqb (z 1) 0 with
  | false => exact TC.seq (slA0 z 6 L ) (TC.seq (TC.block (TC.seq (slB0 z 6 L ) (TC.seq (slI0 z 6 L hL 0 hc) (slD6_0_true_0 z L (by rw [hz]; rfl)))) (.inl rfl)) (slE0 z 6 L ))
  | true => exact TC.seq (slA0 z 6 L ) (TC.seq (TC.block (TC.seq (slB0 z 6 L ) (TC.seq (slI0 z 6 L hL 0 hc) (slD6_0_false_0 z L (by rw [hz]; rfl)))) (.inl rfl)) (slE0 z 6 L ))
theorem slD6_1_true_0 (z : Nat → Int) (L : List Int) (h : (!eqb (z 3) 0) = true) : TC Try.prog 68 (sq2 (sq2 in8)) (frL' (fe8 6 (.sl 1 0 L.length 1 true none) 1 0)) 2 (stL (s8' z L)) .normal (frL' (fo8 6 (.sl 1 0 L.length 1 true none) 1)) 2 (stL (s8' z L)) := by
  have e : (oSt (ev8 [(0, true), (1, true), (2, true), (3, true)] [] 2 (sq2 (sq2 in8)) (fe8 6 (.sl 1 0 L.length 1 true none) 1 0) (s8' z L))).ok = okT [(!eqb (z 3) 0) == true, (!eqb (z 3) 0) == true, (!eqb (z 3) 0) == true, (!eqb (z 3) 0) == true] true := by kernel_rfl
  exact tc8 (φ := [(0, true), (1, true), (2, true), (3, true)]) (nils := []) (by kernel_rfl) (e.trans (by rw [h]; rfl)) ⟨by kernel_rfl, by kernel_rfl, by kernel_rfl, by kernel_rfl, trivial⟩ (by kernel_rfl) ⟨by kernel_rfl, by kernel_rfl, trivial⟩
theorem slD6_1_false_0 (z : Nat → Int) (L : List Int) (h : (!eqb (z 3) 0) = false) : TC Try.prog 68 (sq2 (sq2 in8)) (frL' (fe8 6 (.sl 1 0 L.length 1 true none) 1 0)) 2 (stL (s8' z L)) .normal (frL' (fo8 6 (.sl 1 0 L.length 1 true none) 1)) 2 (stL (s8' z L)) := by
  have e : (oSt (ev8 [(0, false), (1, false), (2, false), (3, false)] [] 2 (sq2 (sq2 in8)) (fe8 6 (.sl 1 0 L.length 1 true none) 1 0) (s8' z L))).ok = okT [(!eqb (z 3) 0) == false, (!eqb (z 3) 0) == false, (!eqb (z 3) 0) == false, (!eqb (z 3) 0) == false] true := by kernel_rfl
  exact tc8 (φ := [(0, false), (1, false), (2, false), (3, false)]) (nils := []) (by kernel_rfl) (e.trans (by rw [h]; rfl)) ⟨by kernel_rfl, by kernel_rfl, by kernel_rfl, by kernel_rfl, trivial⟩ (by kernel_rfl) ⟨by kernel_rfl, by kernel_rfl, trivial⟩
theorem slR6_1 (z : Nat → Int) (L : List Int) (hL : L.length < 65536) (hLe : L = resL z 6) : TC Try.prog 68 o8 (frL' (fo8 6 (.sl 1 0 L.length 1 true none) 1)) 2 (stL (s8' z L)) .normal (frL' (fo8 6 (.sl 1 0 L.length 1 true none) 2)) 2 (stL (s8' z L)) := by
  rw [o8_eq]
  have hr := c6_1 z
  rw [← hLe] at hr
  have hc := hr
  cases hz : eqb (z 3) 0 with
  | false => exact TC.seq (slA1 z 6 L ) (TC.seq (TC.block (TC.seq (slB1 z 6 L ) (TC.seq (slI1 z 6 L hL 0 hc) (slD6_1_true_0 z L (by rw [hz]; rfl)))) (.inl rfl)) (slE1 z 6 L ))
  | true => exact TC.seq (slA1 z 6 L ) (TC.seq (TC.block (TC.seq (slB1 z 6 L ) (TC.seq (slI1 z 6 L hL 0 hc) (slD6_1_false_0 z L (by rw [hz]; rfl)))) (.inl rfl)) (slE1 z 6 L ))
theorem slD6_2_true_0 (z : Nat → Int) (L : List Int) (h : (!eqb (z 5) 0) = true) : TC Try.prog 68 (sq2 (sq2 in8)) (frL' (fe8 6 (.sl 1 0 L.length 1 true none) 2 0)) 2 (stL (s8' z L)) .normal (frL' (fo8 6 (.sl 1 0 L.length 1 true none) 2)) 2 (stL (s8' z L)) := by
  have e : (oSt (ev8 [(0, true), (1, true), (2, true), (3, true)] [] 2 (sq2 (sq2 in8)) (fe8 6 (.sl 1 0 L.length 1 true none) 2 0) (s8' z L))).ok = okT [(!eqb (z 5) 0) == true, (!eqb (z 5) 0) == true, (!eqb (z 5) 0) == true, (!eqb (z 5) 0) == true] true := by kernel_rfl
  exact tc8 (φ := [(0, true), (1, true), (2, true), (3, true)]) (nils := []) (by kernel_rfl) (e.trans (by rw [h]; rfl)) ⟨by kernel_rfl, by kernel_rfl, by kernel_rfl, by kernel_rfl, trivial⟩ (by kernel_rfl) ⟨by kernel_rfl, by kernel_rfl, trivial⟩
theorem slD6_2_false_0 (z : Nat → Int) (L : List Int) (h : (!eqb (z 5) 0) = false) : TC Try.prog 68 (sq2 (sq2 in8)) (frL' (fe8 6 (.sl 1 0 L.length 1 true none) 2 0)) 2 (stL (s8' z L)) .normal (frL' (fo8 6 (.sl 1 0 L.length 1 true none) 2)) 2 (stL (s8' z L)) := by
  have e : (oSt (ev8 [(0, false), (1, false), (2, false), (3, false)] [] 2 (sq2 (sq2 in8)) (fe8 6 (.sl 1 0 L.length 1 true none) 2 0) (s8' z L))).ok = okT [(!eqb (z 5) 0) == false, (!eqb (z 5) 0) == false, (!eqb (z 5) 0) == false, (!eqb (z 5) 0) == false] true := by kernel_rfl
  exact tc8 (φ := [(0, false), (1, false), (2, false), (3, false)]) (nils := []) (by kernel_rfl) (e.trans (by rw [h]; rfl)) ⟨by kernel_rfl, by kernel_rfl, by kernel_rfl, by kernel_rfl, trivial⟩ (by kernel_rfl) ⟨by kernel_rfl, by kernel_rfl, trivial⟩
theorem slR6_2 (z : Nat → Int) (L : List Int) (hL : L.length < 65536) (hLe : L = resL z 6) : TC Try.prog 68 o8 (frL' (fo8 6 (.sl 1 0 L.length 1 true none) 2)) 2 (stL (s8' z L)) .normal (frL' (fo8 6 (.sl 1 0 L.length 1 true none) 3)) 2 (stL (s8' z L)) := by
  rw [o8_eq]
  have hr := c6_2 z
  rw [← hLe] at hr
  have hc := hr
  cases hz : eqb (z 5) 0 with
  | false => exact TC.seq (slA2 z 6 L ) (TC.seq (TC.block (TC.seq (slB2 z 6 L ) (TC.seq (slI2 z 6 L hL 0 hc) (slD6_2_true_0 z L (by rw [hz]; rfl)))) (.inl rfl)) (slE2 z 6 L ))
  | true => exact TC.seq (slA2 z 6 L ) (TC.seq (TC.block (TC.seq (slB2 z 6 L ) (TC.seq (slI2 z 6 L hL 0 hc) (slD6_2_false_0 z L (by rw [hz]; rfl)))) (.inl rfl)) (slE2 z 6 L ))
theorem slD6_3_true_1 (z : Nat → Int) (L : List Int) (h : (!eqb (z 7) 0) = true) : TC Try.prog 68 (sq2 (sq2 in8)) (frL' (fe8 6 (.sl 1 0 L.length 1 true none) 3 1)) 2 (stL (s8' z L)) .normal (frL' (fo8 6 (.sl 1 0 L.length 1 true none) 3)) 2 (stL (s8' z L)) := by
  have e : (oSt (ev8 [(0, true), (1, true), (2, true), (3, true)] [] 2 (sq2 (sq2 in8)) (fe8 6 (.sl 1 0 L.length 1 true none) 3 1) (s8' z L))).ok = okT [(!eqb (z 7) 0) == true, (!eqb (z 7) 0) == true, (!eqb (z 7) 0) == true, (!eqb (z 7) 0) == true] true := by kernel_rfl
  exact tc8 (φ := [(0, true), (1, true), (2, true), (3, true)]) (nils := []) (by kernel_rfl) (e.trans (by rw [h]; rfl)) ⟨by kernel_rfl, by kernel_rfl, by kernel_rfl, by kernel_rfl, trivial⟩ (by kernel_rfl) ⟨by kernel_rfl, by kernel_rfl, trivial⟩
theorem slD6_3_false_0 (z : Nat → Int) (L : List Int) (h : (!eqb (z 7) 0) = false) : TC Try.prog 68 (sq2 (sq2 in8)) (frL' (fe8 6 (.sl 1 0 L.length 1 true none) 3 0)) 2 (stL (s8' z L)) .normal (frL' (fo8 6 (.sl 1 0 L.length 1 true none) 3)) 2 (stL (s8' z L)) := by
  have e : (oSt (ev8 [(0, false), (1, false), (2, false), (3, false)] [] 2 (sq2 (sq2 in8)) (fe8 6 (.sl 1 0 L.length 1 true none) 3 0) (s8' z L))).ok = okT [(!eqb (z 7) 0) == false, (!eqb (z 7) 0) == false, (!eqb (z 7) 0) == false, (!eqb (z 7) 0) == false] true := by kernel_rfl
  exact tc8 (φ := [(0, false), (1, false), (2, false), (3, false)]) (nils := []) (by kernel_rfl) (e.trans (by rw [h]; rfl)) ⟨by kernel_rfl, by kernel_rfl, by kernel_rfl, by kernel_rfl, trivial⟩ (by kernel_rfl) ⟨by kernel_rfl, by kernel_rfl, trivial⟩
theorem slD6_3_false_1 (z : Nat → Int) (L : List Int) (h : (!eqb (z 7) 0) = false) : TC Try.prog 68 (sq2 (sq2 in8)) (frL' (fe8 6 (.sl 1 0 L.length 1 true none) 3 1)) 2 (stL (s8' z L)) .normal (frL' (fo8 6 (.sl 1 0 L.length 1 true none) 3)) 2 (stL (s8' z L)) := by
  have e : (oSt (ev8 [(0, false), (1, false), (2, false), (3, false)] [] 2 (sq2 (sq2 in8)) (fe8 6 (.sl 1 0 L.length 1 true none) 3 1) (s8' z L))).ok = okT [(!eqb (z 7) 0) == false, (!eqb (z 7) 0) == false, (!eqb (z 7) 0) == false, (!eqb (z 7) 0) == false] true := by kernel_rfl
  exact tc8 (φ := [(0, false), (1, false), (2, false), (3, false)]) (nils := []) (by kernel_rfl) (e.trans (by rw [h]; rfl)) ⟨by kernel_rfl, by kernel_rfl, by kernel_rfl, by kernel_rfl, trivial⟩ (by kernel_rfl) ⟨by kernel_rfl, by kernel_rfl, trivial⟩
theorem slR6_3 (z : Nat → Int) (L : List Int) (hL : L.length < 65536) (hLe : L = resL z 6) : TC Try.prog 68 o8 (frL' (fo8 6 (.sl 1 0 L.length 1 true none) 3)) 2 (stL (s8' z L)) .normal (frL' (fo8 6 (.sl 1 0 L.length 1 true none) 4)) 2 (stL (s8' z L)) := by
  rw [o8_eq]
  have hr := c6_3 z
  rw [← hLe] at hr
  cases hz : eqb (z 7) 0 with
  | false =>
    have hc := hr.2 hz
    exact TC.seq (slA3 z 6 L ) (TC.seq (TC.block (TC.seq (slB3 z 6 L ) (TC.seq (slI3 z 6 L hL 1 hc) (slD6_3_true_1 z L (by rw [hz]; rfl)))) (.inl rfl)) (slE3 z 6 L ))
  | true =>
    rcases (show ucnt L 3 = 0 ∨ ucnt L 3 = 1 by omega) with hc | hc
    · exact TC.seq (slA3 z 6 L ) (TC.seq (TC.block (TC.seq (slB3 z 6 L ) (TC.seq (slI3 z 6 L hL 0 hc) (slD6_3_false_0 z L (by rw [hz]; rfl)))) (.inl rfl)) (slE3 z 6 L ))
    · exact TC.seq (slA3 z 6 L ) (TC.seq (TC.block (TC.seq (slB3 z 6 L ) (TC.seq (slI3 z 6 L hL 1 hc) (slD6_3_false_1 z L (by rw [hz]; rfl)))) (.inl rfl)) (slE3 z 6 L ))
theorem slD6_4_true_0 (z : Nat → Int) (L : List Int) (h : (!eqb (z 9) 0) = true) : TC Try.prog 68 (sq2 (sq2 in8)) (frL' (fe8 6 (.sl 1 0 L.length 1 true none) 4 0)) 2 (stL (s8' z L)) .normal (frL' (fo8 6 (.sl 1 0 L.length 1 true none) 4)) 2 (stL (s8' z L)) := by
  have e : (oSt (ev8 [(0, true), (1, true), (2, true), (3, true)] [] 2 (sq2 (sq2 in8)) (fe8 6 (.sl 1 0 L.length 1 true none) 4 0) (s8' z L))).ok = okT [(!eqb (z 9) 0) == true, (!eqb (z 9) 0) == true, (!eqb (z 9) 0) == true, (!eqb (z 9) 0) == true] true := by kernel_rfl
  exact tc8 (φ := [(0, true), (1, true), (2, true), (3, true)]) (nils := []) (by kernel_rfl) (e.trans (by rw [h]; rfl)) ⟨by kernel_rfl, by kernel_rfl, by kernel_rfl, by kernel_rfl, trivial⟩ (by kernel_rfl) ⟨by kernel_rfl, by kernel_rfl, trivial⟩
theorem slD6_4_false_0 (z : Nat → Int) (L : List Int) (h : (!eqb (z 9) 0) = false) : TC Try.prog 68 (sq2 (sq2 in8)) (frL' (fe8 6 (.sl 1 0 L.length 1 true none) 4 0)) 2 (stL (s8' z L)) .normal (frL' (fo8 6 (.sl 1 0 L.length 1 true none) 4)) 2 (stL (s8' z L)) := by
  have e : (oSt (ev8 [(0, false), (1, false), (2, false), (3, false)] [] 2 (sq2 (sq2 in8)) (fe8 6 (.sl 1 0 L.length 1 true none) 4 0) (s8' z L))).ok = okT [(!eqb (z 9) 0) == false, (!eqb (z 9) 0) == false, (!eqb (z 9) 0) == false, (!eqb (z 9) 0) == false] true := by kernel_rfl
  exact tc8 (φ := [(0, false), (1, false), (2, false), (3, false)]) (nils := []) (by kernel_rfl) (e.trans (by rw [h]; rfl)) ⟨by kernel_rfl, by kernel_rfl, by kernel_rfl, by kernel_rfl, trivial⟩ (by kernel_rfl) ⟨by kernel_rfl, by kernel_rfl, trivial⟩
theorem slR6_4 (z : Nat → Int) (L : List Int) (hL : L.length < 65536) (hLe : L = resL z 6) : TC Try.prog 68 o8 (frL' (fo8 6 (.sl 1 0 L.length 1 true none) 4)) 2 (stL (s8' z L)) .normal (frL' (fo8 6 (.sl 1 0 L.length 1 true none) 5)) 2 (stL (s8' z L)) := by
  rw [o8_eq]
  have hr := c6_4 z
  rw [← hLe] at hr
  have hc := hr
  cases hz : eqb (z 9) 0 with
  | false => exact TC.seq (slA4 z 6 L ) (TC.seq (TC.block (TC.seq (slB4 z 6 L ) (TC.seq (slI4 z 6 L hL 0 hc) (slD6_4_true_0 z L (by rw [hz]; rfl)))) (.inl rfl)) (slE4 z 6 L ))
  | true => exact TC.seq (slA4 z 6 L ) (TC.seq (TC.block (TC.seq (slB4 z 6 L ) (TC.seq (slI4 z 6 L hL 0 hc) (slD6_4_false_0 z L (by rw [hz]; rfl)))) (.inl rfl)) (slE4 z 6 L ))
theorem slD6_5_true_0 (z : Nat → Int) (L : List Int) (h : (!eqb (z 11) 0) = true) : TC Try.prog 68 (sq2 (sq2 in8)) (frL' (fe8 6 (.sl 1 0 L.length 1 true none) 5 0)) 2 (stL (s8' z L)) .normal (frL' (fo8 6 (.sl 1 0 L.length 1 true none) 5)) 2 (stL (s8' z L)) := by
  have e : (oSt (ev8 [(0, true), (1, true), (2, true), (3, true)] [] 2 (sq2 (sq2 in8)) (fe8 6 (.sl 1 0 L.length 1 true none) 5 0) (s8' z L))).ok = okT [(!eqb (z 11) 0) == true, (!eqb (z 11) 0) == true, (!eqb (z 11) 0) == true, (!eqb (z 11) 0) == true] true := by kernel_rfl
  exact tc8 (φ := [(0, true), (1, true), (2, true), (3, true)]) (nils := []) (by kernel_rfl) (e.trans (by rw [h]; rfl)) ⟨by kernel_rfl, by kernel_rfl, by kernel_rfl, by kernel_rfl, trivial⟩ (by kernel_rfl) ⟨by kernel_rfl, by kernel_rfl, trivial⟩
theorem slD6_5_false_0 (z : Nat → Int) (L : List Int) (h : (!eqb (z 11) 0) = false) : TC Try.prog 68 (sq2 (sq2 in8)) (frL' (fe8 6 (.sl 1 0 L.length 1 true none) 5 0)) 2 (stL (s8' z L)) .normal (frL' (fo8 6 (.sl 1 0 L.length 1 true none) 5)) 2 (stL (s8' z L)) := by
  have e : (oSt (ev8 [(0, false), (1, false), (2, false), (3, false)] [] 2 (sq2 (sq2 in8)) (fe8 6 (.sl 1 0 L.length 1 true none) 5 0) (s8' z L))).ok = okT [(!eqb (z 11) 0) == false, (!eqb (z 11) 0) == false, (!eqb (z 11) 0) == false, (!eqb (z 11) 0) == false] true := by kernel_rfl
  exact tc8 (φ := [(0, false), (1, false), (2, false), (3, false)]) (nils := []) (by kernel_rfl) (e.trans (by rw [h]; rfl)) ⟨by kernel_rfl, by kernel_rfl, by kernel_rfl, by kernel_rfl, trivial⟩ (by kernel_rfl) ⟨by kernel_rfl, by kernel_rfl, trivial⟩
theorem slR6_5 (z : Nat → Int) (L : List Int) (hL : L.length < 65536) (hLe : L = resL z 6) : TC Try.prog 68 o8 (frL' (fo8 6 (.sl 1 0 L.length 1 true none) 5)) 2 (stL (s8' z L)) .normal (frL' (fo8 6 (.sl 1 0 L.length 1 true none) 6)) 2 (stL (s8' z L)) := by
  rw [o8_eq]
  have hr := c6_5 z
  rw [← hLe] at hr
  have hc := hr
  cases hz : eqb (z 11) 0 with
  | false => exact TC.seq (slA5 z 6 L ) (TC.seq (TC.block (TC.seq (slB5 z 6 L ) (TC.seq (slI5 z 6 L hL 0 hc) (slD6_5_true_0 z L (by rw [hz]; rfl)))) (.inl rfl)) (slE5 z 6 L ))
  | true => exact TC.seq (slA5 z 6 L ) (TC.seq (TC.block (TC.seq (slB5 z 6 L ) (TC.seq (slI5 z 6 L hL 0 hc) (slD6_5_false_0 z L (by rw [hz]; rfl)))) (.inl rfl)) (slE5 z 6 L ))
theorem slD6_6_true_0 (z : Nat → Int) (L : List Int) (h : (!eqb (z 13) 0) = true) : TC Try.prog 68 (sq2 (sq2 in8)) (frL' (fe8 6 (.sl 1 0 L.length 1 true none) 6 0)) 2 (stL (s8' z L)) .normal (frL' (fo8 6 (.sl 1 0 L.length 1 true none) 6)) 2 (stL (s8' z L)) := by
  have e : (oSt (ev8 [(0, true), (1, true), (2, true), (3, true)] [] 2 (sq2 (sq2 in8)) (fe8 6 (.sl 1 0 L.length 1 true none) 6 0) (s8' z L))).ok = okT [(!eqb (z 13) 0) == true, (!eqb (z 13) 0) == true, (!eqb (z 13) 0) == true, (!eqb (z 13) 0) == true] true := by kernel_rfl
  exact tc8 (φ := [(0, true), (1, true), (2, true), (3, true)]) (nils := []) (by kernel_rfl) (e.trans (by rw [h]; rfl)) ⟨by kernel_rfl, by kernel_rfl, by kernel_rfl, by kernel_rfl, trivial⟩ (by kernel_rfl) ⟨by kernel_rfl, by kernel_rfl, trivial⟩
theorem slD6_6_false_0 (z : Nat → Int) (L : List Int) (h : (!eqb (z 13) 0) = false) : TC Try.prog 68 (sq2 (sq2 in8)) (frL' (fe8 6 (.sl 1 0 L.length 1 true none) 6 0)) 2 (stL (s8' z L)) .normal (frL' (fo8 6 (.sl 1 0 L.length 1 true none) 6)) 2 (stL (s8' z L)) := by
  have e : (oSt (ev8 [(0, false), (1, false), (2, false), (3, false)] [] 2 (sq2 (sq2 in8)) (fe8 6 (.sl 1 0 L.length 1 true none) 6 0) (s8' z L))).ok = okT [(!eqb (z 13) 0) == false, (!eqb (z 13) 0) == false, (!eqb (z 13) 0) == false, (!eqb (z 13) 0) == false] true := by kernel_rfl
  exact tc8 (φ := [(0, false), (1, false), (2, false), (3, false)]) (nils := []) (by kernel_rfl) (e.trans (by rw [h]; rfl)) ⟨by kernel_rfl, by kernel_rfl, by kernel_rfl, by kernel_rfl, trivial⟩ (by kernel_rfl) ⟨by kernel_rfl, by kernel_rfl, trivial⟩
theorem slR6_6 (z : Nat → Int) (L : List Int) (hL : L.length < 65536) (hLe : L = resL z 6) : TC Try.prog 68 o8 (frL' (fo8 6 (.sl 1 0 L.length 1 true none) 6)) 2 (stL (s8' z L)) .normal (frL' (fo8 6 (.sl 1 0 L.length 1 true none) 7)) 2 (stL (s8' z L)) := by
  rw [o8_eq]
  have hr := c6_6 z
  rw [← hLe] at hr
  have hc := hr
  cases hz : eqb (z 13) 0 with
  | false => exact TC.seq (slA6 z 6 L ) (TC.seq (TC.block (TC.seq (slB6 z 6 L ) (TC.seq (slI6 z 6 L hL 0 hc) (slD6_6_true_0 z L (by rw [hz]; rfl)))) (.inl rfl)) (slE6 z 6 L ))
  | true => exact TC.seq (slA6 z 6 L ) (TC.seq (TC.block (TC.seq (slB6 z 6 L ) (TC.seq (slI6 z 6 L hL 0 hc) (slD6_6_false_0 z L (by rw [hz]; rfl)))) (.inl rfl)) (slE6 z 6 L ))
theorem slD6_7_true_0 (z : Nat → Int) (L : List Int) (h : (!eqb (z 15) 0) = true) : TC Try.prog 68 (sq2 (sq2 in8)) (frL' (fe8 6 (.sl 1 0 L.length 1 true none) 7 0)) 2 (stL (s8' z L)) .normal (frL' (fo8 6 (.sl 1 0 L.length 1 true none) 7)) 2 (stL (s8' z L)) := by
  have e : (oSt (ev8 [(0, true), (1, true), (2, true), (3, true)] [] 2 (sq2 (sq2 in8)) (fe8 6 (.sl 1 0 L.length 1 true none) 7 0) (s8' z L))).ok = okT [(!eqb (z 15) 0) == true, (!eqb (z 15) 0) == true, (!eqb (z 15) 0) == true, (!eqb (z 15) 0) == true] true := by kernel_rfl
  exact tc8 (φ := [(0, true), (1, true), (2, true), (3, true)]) (nils := []) (by kernel_rfl) (e.trans (by rw [h]; rfl)) ⟨by kernel_rfl, by kernel_rfl, by kernel_rfl, by kernel_rfl, trivial⟩ (by kernel_rfl) ⟨by kernel_rfl, by kernel_rfl, trivial⟩
theorem slD6_7_false_0 (z : Nat → Int) (L : List Int) (h : (!eqb (z 15) 0) = false) : TC Try.prog 68 (sq2 (sq2 in8)) (frL' (fe8 6 (.sl 1 0 L.length 1 true none) 7 0)) 2 (stL (s8' z L)) .normal (frL' (fo8 6 (.sl 1 0 L.length 1 true none) 7)) 2 (stL (s8' z L)) := by
  have e : (oSt (ev8 [(0, false), (1, false), (2, false), (3, false)] [] 2 (sq2 (sq2 in8)) (fe8 6 (.sl 1 0 L.length 1 true none) 7 0) (s8' z L))).ok = okT [(!eqb (z 15) 0) == false, (!eqb (z 15) 0) == false, (!eqb (z 15) 0) == false, (!eqb (z 15) 0) == false] true := by kernel_rfl
  exact tc8 (φ := [(0, false), (1, false), (2, false), (3, false)]) (nils := []) (by kernel_rfl) (e.trans (by rw [h]; rfl)) ⟨by kernel_rfl, by kernel_rfl, by kernel_rfl, by kernel_rfl, trivial⟩ (by kernel_rfl) ⟨by kernel_rfl, by kernel_rfl, trivial⟩
theorem slR6_7 (z : Nat → Int) (L : List Int) (hL : L.length < 65536) (hLe : L = resL z 6) : TC Try.prog 68 o8 (frL' (fo8 6 (.sl 1 0 L.length 1 true none) 7)) 2 (stL (s8' z L)) .normal (frL' (fo8 6 (.sl 1 0 L.length 1 true none) 8)) 2 (stL (s8' z L)) := by
  rw [o8_eq]
  have hr := c6_7 z
  rw [← hLe] at hr
  have hc := hr
  cases hz : eqb (z 15) 0 with
  | false => exact TC.seq (slA7 z 6 L ) (TC.seq (TC.block (TC.seq (slB7 z 6 L ) (TC.seq (slI7 z 6 L hL 0 hc) (slD6_7_true_0 z L (by rw [hz]; rfl)))) (.inl rfl)) (slE7 z 6 L ))
  | true => exact TC.seq (slA7 z 6 L ) (TC.seq (TC.block (TC.seq (slB7 z 6 L ) (TC.seq (slI7 z 6 L hL 0 hc) (slD6_7_false_0 z L (by rw [hz]; rfl)))) (.inl rfl)) (slE7 z 6 L ))
theorem slW6 (z : Nat → Int) (L : List Int) (hL : L.length < 65536) (hLe : L = resL z 6) : TC Try.prog 68 (.seq (.seq (sq1 (sq1 (sq2 out8))) (.block 0 (.loop o8))) (sq2 (sq2 out8))) (frL' [(1, .sc (.int .i64 6)), (2, .ptr 0 0), (5, (.sl 1 0 L.length 1 true none))]) 2 (stL (s8' z L)) .ret (frL' [(4, .sc (.bool true))]) 2 (stL (s8' z L)) :=
  TC.seq (TC.seq (slS z 6 L ) (TC.block (TC.loop (k := 9) (TR.more (slR6_0 z L hL hLe) (TR.more (slR6_1 z L hL hLe) (TR.more (slR6_2 z L hL hLe) (TR.more (slR6_3 z L hL hLe) (TR.more (slR6_4 z L hL hLe) (TR.more (slR6_5 z L hL hLe) (TR.more (slR6_6 z L hL hLe) (TR.more (slR6_7 z L hL hLe) (TR.out (slX z 6 L ) (by simp))))))))))) (.inr rfl))) (slZ z L )
theorem slD7_0_true_1 (z : Nat → Int) (L : List Int) (h : (!eqb (z 1) 0) = true) : TC Try.prog 68 (sq2 (sq2 in8)) (frL' (fe8 7 (.sl 1 0 L.length 1 true none) 0 1)) 2 (stL (s8' z L)) .normal (frL' (fo8 7 (.sl 1 0 L.length 1 true none) 0)) 2 (stL (s8' z L)) := by
  have e : (oSt (ev8 [(0, true), (1, true), (2, true), (3, true)] [] 2 (sq2 (sq2 in8)) (fe8 7 (.sl 1 0 L.length 1 true none) 0 1) (s8' z L))).ok = okT [(!eqb (z 1) 0) == true, (!eqb (z 1) 0) == true, (!eqb (z 1) 0) == true, (!eqb (z 1) 0) == true] true := by kernel_rfl
  exact tc8 (φ := [(0, true), (1, true), (2, true), (3, true)]) (nils := []) (by kernel_rfl) (e.trans (by rw [h]; rfl)) ⟨by kernel_rfl, by kernel_rfl, by kernel_rfl, by kernel_rfl, trivial⟩ (by kernel_rfl) ⟨by kernel_rfl, by kernel_rfl, trivial⟩
theorem slD7_0_false_0 (z : Nat → Int) (L : List Int) (h : (!eqb (z 1) 0) = false) : TC Try.prog 68 (sq2 (sq2 in8)) (frL' (fe8 7 (.sl 1 0 L.length 1 true none) 0 0)) 2 (stL (s8' z L)) .normal (frL' (fo8 7 (.sl 1 0 L.length 1 true none) 0)) 2 (stL (s8' z L)) := by
  have e : (oSt (ev8 [(0, false), (1, false), (2, false), (3, false)] [] 2 (sq2 (sq2 in8)) (fe8 7 (.sl 1 0 L.length 1 true none) 0 0) (s8' z L))).ok = okT [(!eqb (z 1) 0) == false, (!eqb (z 1) 0) == false, (!eqb (z 1) 0) == false, (!eqb (z 1) 0) == false] true := by kernel_rfl
  exact tc8 (φ := [(0, false), (1, false), (2, false), (3, false)]) (nils := []) (by kernel_rfl) (e.trans (by rw [h]; rfl)) ⟨by kernel_rfl, by kernel_rfl, by kernel_rfl, by kernel_rfl, trivial⟩ (by kernel_rfl) ⟨by kernel_rfl, by kernel_rfl, trivial⟩
theorem slD7_0_false_1 (z : Nat → Int) (L : List Int) (h : (!eqb (z 1) 0) = false) : TC Try.prog 68 (sq2 (sq2 in8)) (frL' (fe8 7 (.sl 1 0 L.length 1 true none) 0 1)) 2 (stL (s8' z L)) .normal (frL' (fo8 7 (.sl 1 0 L.length 1 true none) 0)) 2 (stL (s8' z L)) := by
  have e : (oSt (ev8 [(0, false), (1, false), (2, false), (3, false)] [] 2 (sq2 (sq2 in8)) (fe8 7 (.sl 1 0 L.length 1 true none) 0 1) (s8' z L))).ok = okT [(!eqb (z 1) 0) == false, (!eqb (z 1) 0) == false, (!eqb (z 1) 0) == false, (!eqb (z 1) 0) == false] true := by kernel_rfl
  exact tc8 (φ := [(0, false), (1, false), (2, false), (3, false)]) (nils := []) (by kernel_rfl) (e.trans (by rw [h]; rfl)) ⟨by kernel_rfl, by kernel_rfl, by kernel_rfl, by kernel_rfl, trivial⟩ (by kernel_rfl) ⟨by kernel_rfl, by kernel_rfl, trivial⟩
theorem slR7_0 (z : Nat → Int) (L : List Int) (hL : L.length < 65536) (hLe : L = resL z 7) : TC Try.prog 68 o8 (frL' (fo8 7 (.sl 1 0 L.length 1 true none) 0)) 2 (stL (s8' z L)) .normal (frL' (fo8 7 (.sl 1 0 L.length 1 true none) 1)) 2 (stL (s8' z L)) := by
  rw [o8_eq]
  have hr := c7_0 z
  rw [← hLe] at hr
  cases hz : eqb (z 1) 0 with
  | false =>
    have hc := hr.2 hz
    exact TC.seq (slA0 z 7 L ) (TC.seq (TC.block (TC.seq (slB0 z 7 L ) (TC.seq (slI0 z 7 L hL 1 hc) (slD7_0_true_1 z L (by rw [hz]; rfl)))) (.inl rfl)) (slE0 z 7 L ))
  | true =>
    rcases (show ucnt L 0 = 0 ∨ ucnt L 0 = 1 by omega) with hc | hc
    · exact TC.seq (slA0 z 7 L ) (TC.seq (TC.block (TC.seq (slB0 z 7 L ) (TC.seq (slI0 z 7 L hL 0 hc) (slD7_0_false_0 z L (by rw [hz]; rfl)))) (.inl rfl)) (slE0 z 7 L ))
    · exact TC.seq (slA0 z 7 L ) (TC.seq (TC.block (TC.seq (slB0 z 7 L ) (TC.seq (slI0 z 7 L hL 1 hc) (slD7_0_false_1 z L (by rw [hz]; rfl)))) (.inl rfl)) (slE0 z 7 L ))
theorem slD7_1_true_1 (z : Nat → Int) (L : List Int) (h : (!eqb (z 3) 0) = true) : TC Try.prog 68 (sq2 (sq2 in8)) (frL' (fe8 7 (.sl 1 0 L.length 1 true none) 1 1)) 2 (stL (s8' z L)) .normal (frL' (fo8 7 (.sl 1 0 L.length 1 true none) 1)) 2 (stL (s8' z L)) := by
  have e : (oSt (ev8 [(0, true), (1, true), (2, true), (3, true)] [] 2 (sq2 (sq2 in8)) (fe8 7 (.sl 1 0 L.length 1 true none) 1 1) (s8' z L))).ok = okT [(!eqb (z 3) 0) == true, (!eqb (z 3) 0) == true, (!eqb (z 3) 0) == true, (!eqb (z 3) 0) == true] true := by kernel_rfl
  exact tc8 (φ := [(0, true), (1, true), (2, true), (3, true)]) (nils := []) (by kernel_rfl) (e.trans (by rw [h]; rfl)) ⟨by kernel_rfl, by kernel_rfl, by kernel_rfl, by kernel_rfl, trivial⟩ (by kernel_rfl) ⟨by kernel_rfl, by kernel_rfl, trivial⟩
theorem slD7_1_false_0 (z : Nat → Int) (L : List Int) (h : (!eqb (z 3) 0) = false) : TC Try.prog 68 (sq2 (sq2 in8)) (frL' (fe8 7 (.sl 1 0 L.length 1 true none) 1 0)) 2 (stL (s8' z L)) .normal (frL' (fo8 7 (.sl 1 0 L.length 1 true none) 1)) 2 (stL (s8' z L)) := by
  have e : (oSt (ev8 [(0, false), (1, false), (2, false), (3, false)] [] 2 (sq2 (sq2 in8)) (fe8 7 (.sl 1 0 L.length 1 true none) 1 0) (s8' z L))).ok = okT [(!eqb (z 3) 0) == false, (!eqb (z 3) 0) == false, (!eqb (z 3) 0) == false, (!eqb (z 3) 0) == false] true := by kernel_rfl
  exact tc8 (φ := [(0, false), (1, false), (2, false), (3, false)]) (nils := []) (by kernel_rfl) (e.trans (by rw [h]; rfl)) ⟨by kernel_rfl, by kernel_rfl, by kernel_rfl, by kernel_rfl, trivial⟩ (by kernel_rfl) ⟨by kernel_rfl, by kernel_rfl, trivial⟩
theorem slD7_1_false_1 (z : Nat → Int) (L : List Int) (h : (!eqb (z 3) 0) = false) : TC Try.prog 68 (sq2 (sq2 in8)) (frL' (fe8 7 (.sl 1 0 L.length 1 true none) 1 1)) 2 (stL (s8' z L)) .normal (frL' (fo8 7 (.sl 1 0 L.length 1 true none) 1)) 2 (stL (s8' z L)) := by
  have e : (oSt (ev8 [(0, false), (1, false), (2, false), (3, false)] [] 2 (sq2 (sq2 in8)) (fe8 7 (.sl 1 0 L.length 1 true none) 1 1) (s8' z L))).ok = okT [(!eqb (z 3) 0) == false, (!eqb (z 3) 0) == false, (!eqb (z 3) 0) == false, (!eqb (z 3) 0) == false] true := by kernel_rfl
  exact tc8 (φ := [(0, false), (1, false), (2, false), (3, false)]) (nils := []) (by kernel_rfl) (e.trans (by rw [h]; rfl)) ⟨by kernel_rfl, by kernel_rfl, by kernel_rfl, by kernel_rfl, trivial⟩ (by kernel_rfl) ⟨by kernel_rfl, by kernel_rfl, trivial⟩
theorem slR7_1 (z : Nat → Int) (L : List Int) (hL : L.length < 65536) (hLe : L = resL z 7) : TC Try.prog 68 o8 (frL' (fo8 7 (.sl 1 0 L.length 1 true none) 1)) 2 (stL (s8' z L)) .normal (frL' (fo8 7 (.sl 1 0 L.length 1 true none) 2)) 2 (stL (s8' z L)) := by
  rw [o8_eq]
  have hr := c7_1 z
  rw [← hLe] at hr
  cases hz : eqb (z 3) 0 with
  | false =>
    have hc := hr.2 hz
    exact TC.seq (slA1 z 7 L ) (TC.seq (TC.block (TC.seq (slB1 z 7 L ) (TC.seq (slI1 z 7 L hL 1 hc) (slD7_1_true_1 z L (by rw [hz]; rfl)))) (.inl rfl)) (slE1 z 7 L ))
  | true =>
    rcases (show ucnt L 1 = 0 ∨ ucnt L 1 = 1 by omega) with hc | hc
    · exact TC.seq (slA1 z 7 L ) (TC.seq (TC.block (TC.seq (slB1 z 7 L ) (TC.seq (slI1 z 7 L hL 0 hc) (slD7_1_false_0 z L (by rw [hz]; rfl)))) (.inl rfl)) (slE1 z 7 L ))
    · exact TC.seq (slA1 z 7 L ) (TC.seq (TC.block (TC.seq (slB1 z 7 L ) (TC.seq (slI1 z 7 L hL 1 hc) (slD7_1_false_1 z L (by rw [hz]; rfl)))) (.inl rfl)) (slE1 z 7 L ))
theorem slD7_2_true_1 (z : Nat → Int) (L : List Int) (h : (!eqb (z 5) 0) = true) : TC Try.prog 68 (sq2 (sq2 in8)) (frL' (fe8 7 (.sl 1 0 L.length 1 true none) 2 1)) 2 (stL (s8' z L)) .normal (frL' (fo8 7 (.sl 1 0 L.length 1 true none) 2)) 2 (stL (s8' z L)) := by
  have e : (oSt (ev8 [(0, true), (1, true), (2, true), (3, true)] [] 2 (sq2 (sq2 in8)) (fe8 7 (.sl 1 0 L.length 1 true none) 2 1) (s8' z L))).ok = okT [(!eqb (z 5) 0) == true, (!eqb (z 5) 0) == true, (!eqb (z 5) 0) == true, (!eqb (z 5) 0) == true] true := by kernel_rfl
  exact tc8 (φ := [(0, true), (1, true), (2, true), (3, true)]) (nils := []) (by kernel_rfl) (e.trans (by rw [h]; rfl)) ⟨by kernel_rfl, by kernel_rfl, by kernel_rfl, by kernel_rfl, trivial⟩ (by kernel_rfl) ⟨by kernel_rfl, by kernel_rfl, trivial⟩
theorem slD7_2_false_0 (z : Nat → Int) (L : List Int) (h : (!eqb (z 5) 0) = false) : TC Try.prog 68 (sq2 (sq2 in8)) (frL' (fe8 7 (.sl 1 0 L.length 1 true none) 2 0)) 2 (stL (s8' z L)) .normal (frL' (fo8 7 (.sl 1 0 L.length 1 true none) 2)) 2 (stL (s8' z L)) := by
  have e : (oSt (ev8 [(0, false), (1, false), (2, false), (3, false)] [] 2 (sq2 (sq2 in8)) (fe8 7 (.sl 1 0 L.length 1 true none) 2 0) (s8' z L))).ok = okT [(!eqb (z 5) 0) == false, (!eqb (z 5) 0) == false, (!eqb (z 5) 0) == false, (!eqb (z 5) 0) == false] true := by kernel_rfl
  exact tc8 (φ := [(0, false), (1, false), (2, false), (3, false)]) (nils := []) (by kernel_rfl) (e.trans (by rw [h]; rfl)) ⟨by kernel_rfl, by kernel_rfl, by kernel_rfl, by kernel_rfl, trivial⟩ (by kernel_rfl) ⟨by kernel_rfl, by kernel_rfl, trivial⟩
theorem slD7_2_false_1 (z : Nat → Int) (L : List Int) (h : (!eqb (z 5) 0) = false) : TC Try.prog 68 (sq2 (sq2 in8)) (frL' (fe8 7 (.sl 1 0 L.length 1 true none) 2 1)) 2 (stL (s8' z L)) .normal (frL' (fo8 7 (.sl 1 0 L.length 1 true none) 2)) 2 (stL (s8' z L)) := by
  have e : (oSt (ev8 [(0, false), (1, false), (2, false), (3, false)] [] 2 (sq2 (sq2 in8)) (fe8 7 (.sl 1 0 L.length 1 true none) 2 1) (s8' z L))).ok = okT [(!eqb (z 5) 0) == false, (!eqb (z 5) 0) == false, (!eqb (z 5) 0) == false, (!eqb (z 5) 0) == false] true := by kernel_rfl
  exact tc8 (φ := [(0, false), (1, false), (2, false), (3, false)]) (nils := []) (by kernel_rfl) (e.trans (by rw [h]; rfl)) ⟨by kernel_rfl, by kernel_rfl, by kernel_rfl, by kernel_rfl, trivial⟩ (by kernel_rfl) ⟨by kernel_rfl, by kernel_rfl, trivial⟩
theorem slR7_2 (z : Nat → Int) (L : List Int) (hL : L.length < 65536) (hLe : L = resL z 7) : TC Try.prog 68 o8 (frL' (fo8 7 (.sl 1 0 L.length 1 true none) 2)) 2 (stL (s8' z L)) .normal (frL' (fo8 7 (.sl 1 0 L.length 1 true none) 3)) 2 (stL (s8' z L)) := by
  rw [o8_eq]
  have hr := c7_2 z
  rw [← hLe] at hr
  cases hz : eqb (z 5) 0 with
  | false =>
    have hc := hr.2 hz
    exact TC.seq (slA2 z 7 L ) (TC.seq (TC.block (TC.seq (slB2 z 7 L ) (TC.seq (slI2 z 7 L hL 1 hc) (slD7_2_true_1 z L (by rw [hz]; rfl)))) (.inl rfl)) (slE2 z 7 L ))
  | true =>
    rcases (show ucnt L 2 = 0 ∨ ucnt L 2 = 1 by omega) with hc | hc
    · exact TC.seq (slA2 z 7 L ) (TC.seq (TC.block (TC.seq (slB2 z 7 L ) (TC.seq (slI2 z 7 L hL 0 hc) (slD7_2_false_0 z L (by rw [hz]; rfl)))) (.inl rfl)) (slE2 z 7 L ))
    · exact TC.seq (slA2 z 7 L ) (TC.seq (TC.block (TC.seq (slB2 z 7 L ) (TC.seq (slI2 z 7 L hL 1 hc) (slD7_2_false_1 z L (by rw [hz]; rfl)))) (.inl rfl)) (slE2 z 7 L ))
theorem slD7_3_true_1 (z : Nat → Int) (L : List Int) (h : (!eqb (z 7) 0) = true) : TC Try.prog 68 (sq2 (sq2 in8)) (frL' (fe8 7 (.sl 1 0 L.length 1 true none) 3 1)) 2 (stL (s8' z L)) .normal (frL' (fo8 7 (.sl 1 0 L.length 1 true none) 3)) 2 (stL (s8' z L)) := by
  have e : (oSt (ev8 [(0, true), (1, true), (2, true), (3, true)] [] 2 (sq2 (sq2 in8)) (fe8 7 (.sl 1 0 L.length 1 true none) 3 1) (s8' z L))).ok = okT [(!eqb (z 7) 0) == true, (!eqb (z 7) 0) == true, (!eqb (z 7) 0) == true, (!eqb (z 7) 0) == true] true := by kernel_rfl
  exact tc8 (φ := [(0, true), (1, true), (2, true), (3, true)]) (nils := []) (by kernel_rfl) (e.trans (by rw [h]; rfl)) ⟨by kernel_rfl, by kernel_rfl, by kernel_rfl, by kernel_rfl, trivial⟩ (by kernel_rfl) ⟨by kernel_rfl, by kernel_rfl, trivial⟩
theorem slD7_3_false_0 (z : Nat → Int) (L : List Int) (h : (!eqb (z 7) 0) = false) : TC Try.prog 68 (sq2 (sq2 in8)) (frL' (fe8 7 (.sl 1 0 L.length 1 true none) 3 0)) 2 (stL (s8' z L)) .normal (frL' (fo8 7 (.sl 1 0 L.length 1 true none) 3)) 2 (stL (s8' z L)) := by
  have e : (oSt (ev8 [(0, false), (1, false), (2, false), (3, false)] [] 2 (sq2 (sq2 in8)) (fe8 7 (.sl 1 0 L.length 1 true none) 3 0) (s8' z L))).ok = okT [(!eqb (z 7) 0) == false, (!eqb (z 7) 0) == false, (!eqb (z 7) 0) == false, (!eqb (z 7) 0) == false] true := by kernel_rfl
  exact tc8 (φ := [(0, false), (1, false), (2, false), (3, false)]) (nils := []) (by kernel_rfl) (e.trans (by rw [h]; rfl)) ⟨by kernel_rfl, by kernel_rfl, by kernel_rfl, by kernel_rfl, trivial⟩ (by kernel_rfl) ⟨by kernel_rfl, by kernel_rfl, trivial⟩
theorem slD7_3_false_1 (z : Nat → Int) (L : List Int) (h : (!eqb (z 7) 0) = false) : TC Try.prog 68 (sq2 (sq2 in8)) (frL' (fe8 7 (.sl 1 0 L.length 1 true none) 3 1)) 2 (stL (s8' z L)) .normal (frL' (fo8 7 (.sl 1 0 L.length 1 true none) 3)) 2 (stL (s8' z L)) := by
  have e : (oSt (ev8 [(0, false), (1, false), (2, false), (3, false)] [] 2 (sq2 (sq2 in8)) (fe8 7 (.sl 1 0 L.length 1 true none) 3 1) (s8' z L))).ok = okT [(!eqb (z 7) 0) == false, (!eqb (z 7) 0) == false, (!eqb (z 7) 0) == false, (!eqb (z 7) 0) == false] true := by kernel_rfl
  exact tc8 (φ := [(0, false), (1, false), (2, false), (3, false)]) (nils := []) (by kernel_rfl) (e.trans (by rw [h]; rfl)) ⟨by kernel_rfl, by kernel_rfl, by kernel_rfl, by kernel_rfl, trivial⟩ (by kernel_rfl) ⟨by kernel_rfl, by kernel_rfl, trivial⟩
theorem slR7_3 (z : Nat → Int) (L : List Int) (hL : L.length < 65536) (hLe : L = resL z 7) : TC Try.prog 68 o8 (frL' (fo8 7 (.sl 1 0 L.length 1 true none) 3)) 2 (stL (s8' z L)) .normal (frL' (fo8 7 (.sl 1 0 L.length 1 true none) 4)) 2 (stL (s8' z L)) := by
  rw [o8_eq]
  have hr := c7_3 z
  rw [← hLe] at hr
  cases hz : eqb (z 7) 0 with
  | false =>
    have hc := hr.2 hz
    exact TC.seq (slA3 z 7 L ) (TC.seq (TC.block (TC.seq (slB3 z 7 L ) (TC.seq (slI3 z 7 L hL 1 hc) (slD7_3_true_1 z L (by rw [hz]; rfl)))) (.inl rfl)) (slE3 z 7 L ))
  | true =>
    rcases (show ucnt L 3 = 0 ∨ ucnt L 3 = 1 by omega) with hc | hc
    · exact TC.seq (slA3 z 7 L ) (TC.seq (TC.block (TC.seq (slB3 z 7 L ) (TC.seq (slI3 z 7 L hL 0 hc) (slD7_3_false_0 z L (by rw [hz]; rfl)))) (.inl rfl)) (slE3 z 7 L ))
    · exact TC.seq (slA3 z 7 L ) (TC.seq (TC.block (TC.seq (slB3 z 7 L ) (TC.seq (slI3 z 7 L hL 1 hc) (slD7_3_false_1 z L (by rw [hz]; rfl)))) (.inl rfl)) (slE3 z 7 L ))
theorem slD7_4_true_1 (z : Nat → Int) (L : List Int) (h : (!eqb (z 9) 0) = true) : TC Try.prog 68 (sq2 (sq2 in8)) (frL' (fe8 7 (.sl 1 0 L.length 1 true none) 4 1)) 2 (stL (s8' z L)) .normal (frL' (fo8 7 (.sl 1 0 L.length 1 true none) 4)) 2 (stL (s8' z L)) := by
  have e : (oSt (ev8 [(0, true), (1, true), (2, true), (3, true)] [] 2 (sq2 (sq2 in8)) (fe8 7 (.sl 1 0 L.length 1 true none) 4 1) (s8' z L))).ok = okT [(!eqb (z 9) 0) == true, (!eqb (z 9) 0) == true, (!eqb (z 9) 0) == true, (!eqb (z 9) 0) == true] true := by kernel_rfl
  exact tc8 (φ := [(0, true), (1, true), (2, true), (3, true)]) (nils := []) (by kernel_rfl) (e.trans (by rw [h]; rfl)) ⟨by kernel_rfl, by kernel_rfl, by kernel_rfl, by kernel_rfl, trivial⟩ (by kernel_rfl) ⟨by kernel_rfl, by kernel_rfl, trivial⟩
theorem slD7_4_false_0 (z : Nat → Int) (L : List Int) (h : (!eqb (z 9) 0) = false) : TC Try.prog 68 (sq2 (sq2 in8)) (frL' (fe8 7 (.sl 1 0 L.length 1 true none) 4 0)) 2 (stL (s8' z L)) .normal (frL' (fo8 7 (.sl 1 0 L.length 1 true none) 4)) 2 (stL (s8' z L)) := by
  have e : (oSt (ev8 [(0, false), (1, false), (2, false), (3, false)] [] 2 (sq2 (sq2 in8)) (fe8 7 (.sl 1 0 L.length 1 true none) 4 0) (s8' z L))).ok = okT [(!eqb (z 9) 0) == false, (!eqb (z 9) 0) == false, (!eqb (z 9) 0) == false, (!eqb (z 9) 0) == false] true := by kernel_rfl
  exact tc8 (φ := [(0, false), (1, false), (2, false), (3, false)]) (nils := []) (by kernel_rfl) (e.trans (by rw [h]; rfl)) ⟨by kernel_rfl, by kernel_rfl, by kernel_rfl, by kernel_rfl, trivial⟩ (by kernel_rfl) ⟨by kernel_rfl, by kernel_rfl, trivial⟩
theorem slD7_4_false_1 (z : Nat → Int) (L : List Int) (h : (!eqb (z 9) 0) = false) : TC Try.prog 68 (sq2 (sq2 in8)) (frL' (fe8 7 (.sl 1 0 L.length 1 true none) 4 1)) 2 (stL (s8' z L)) .normal (frL' (fo8 7 (.sl 1 0 L.length 1 true none) 4)) 2 (stL (s8' z L)) := by
  have e : (oSt (ev8 [(0, false), (1, false), (2, false), (3, false)] [] 2 (sq2 (sq2 in8)) (fe8 7 (.sl 1 0 L.length 1 true none) 4 1) (s8' z L))).ok = okT [(!eqb (z 9) 0) == false, (!eqb (z 9) 0) == false, (!eqb (z 9) 0) == false, (!eqb (z 9) 0) == false] true := by kernel_rfl
  exact tc8 (φ := [(0, false), (1, false), (2, false), (3, false)]) (nils := []) (by kernel_rfl) (e.trans (by rw [h]; rfl)) ⟨by kernel_rfl, by kernel_rfl, by kernel_rfl, by kernel_rfl, trivial⟩ (by kernel_rfl) ⟨by kernel_rfl, by kernel_rfl, trivial⟩
theorem slR7_4 (z : Nat → Int) (L : List Int) (hL : L.length < 65536) (hLe : L = resL z 7) : TC Try.prog 68 o8 (frL' (fo8 7 (.sl 1 0 L.length 1 true none) 4)) 2 (stL (s8' z L)) .normal (frL' (fo8 7 (.sl 1 0 L.length 1 true none) 5)) 2 (stL (s8' z L)) := by
  rw [o8_eq]
  have hr := c7_4 z
  rw [← hLe] at hr
  cases hz : eqb (z 9) 0 with
  | false =>
    have hc := hr.2 hz
    exact TC.seq (slA4 z 7 L ) (TC.seq (TC.block (TC.seq (slB4 z 7 L ) (TC.seq (slI4 z 7 L hL 1 hc) (slD7_4_true_1 z L (by rw [hz]; rfl)))) (.inl rfl)) (slE4 z 7 L ))
  | true =>
    rcases (show ucnt L 4 = 0 ∨ ucnt L 4 = 1 by omega) with hc | hc
    · exact TC.seq (slA4 z 7 L ) (TC.seq (TC.block (TC.seq (slB4 z 7 L ) (TC.seq (slI4 z 7 L hL 0 hc) (slD7_4_false_0 z L (by rw [hz]; rfl)))) (.inl rfl)) (slE4 z 7 L ))
    · exact TC.seq (slA4 z 7 L ) (TC.seq (TC.block (TC.seq (slB4 z 7 L ) (TC.seq (slI4 z 7 L hL 1 hc) (slD7_4_false_1 z L (by rw [hz]; rfl)))) (.inl rfl)) (slE4 z 7 L ))
theorem slD7_5_true_1 (z : Nat → Int) (L : List Int) (h : (!eqb (z 11) 0) = true) : TC Try.prog 68 (sq2 (sq2 in8)) (frL' (fe8 7 (.sl 1 0 L.length 1 true none) 5 1)) 2 (stL (s8' z L)) .normal (frL' (fo8 7 (.sl 1 0 L.length 1 true none) 5)) 2 (stL (s8' z L)) := by
  have e : (oSt (ev8 [(0, true), (1, true), (2, true), (3, true)] [] 2 (sq2 (sq2 in8)) (fe8 7 (.sl 1 0 L.length 1 true none) 5 1) (s8' z L))).ok = okT [(!eqb (z 11) 0) == true, (!eqb (z 11) 0) == true, (!eqb (z 11) 0) == true, (!eqb (z 11) 0) == true] true := by kernel_rfl
  exact tc8 (φ := [(0, true), (1, true), (2, true), (3, true)]) (nils := []) (by kernel_rfl) (e.trans (by rw [h]; rfl)) ⟨by kernel_rfl, by kernel_rfl, by kernel_rfl, by kernel_rfl, trivial⟩ (by kernel_rfl) ⟨by kernel_rfl, by kernel_rfl, trivial⟩
theorem slD7_5_false_0 (z : Nat → Int) (L : List Int) (h : (!eqb (z 11) 0) = false) : TC Try.prog 68 (sq2 (sq2 in8)) (frL' (fe8 7 (.sl 1 0 L.length 1 true none) 5 0)) 2 (stL (s8' z L)) .normal (frL' (fo8 7 (.sl 1 0 L.length 1 true none) 5)) 2 (stL (s8' z L)) := by
  have e : (oSt (ev8 [(0, false), (1, false), (2, false), (3, false)] [] 2 (sq2 (sq2 in8)) (fe8 7 (.sl 1 0 L.length 1 true none) 5 0) (s8' z L))).ok = okT [(!eqb (z 11) 0) == false, (!eqb (z 11) 0) == false, (!eqb (z 11) 0) == false, (!eqb (z 11) 0) == false] true := by kernel_rfl
  exact tc8 (φ := [(0, false), (1, false), (2, false), (3, false)]) (nils := []) (by kernel_rfl) (e.trans (by rw [h]; rfl)) ⟨by kernel_rfl, by kernel_rfl, by kernel_rfl, by kernel_rfl, trivial⟩ (by kernel_rfl) ⟨by kernel_rfl, by kernel_rfl, trivial⟩
theorem slD7_5_false_1 (z : Nat → Int) (L : List Int) (h : (!eqb (z 11) 0) = false) : TC Try.prog 68 (sq2 (sq2 in8)) (frL' (fe8 7 (.sl 1 0 L.length 1 true none) 5 1)) 2 (stL (s8' z L)) .normal (frL' (fo8 7 (.sl 1 0 L.length 1 true none) 5)) 2 (stL (s8' z L)) := by
  have e : (oSt (ev8 [(0, false), (1, false), (2, false), (3, false)] [] 2 (sq2 (sq2 in8)) (fe8 7 (.sl 1 0 L.length 1 true none) 5 1) (s8' z L))).ok = okT [(!eqb (z 11) 0) == false, (!eqb (z 11) 0) == false, (!eqb (z 11) 0) == false, (!eqb (z 11) 0) == false] true := by kernel_rfl
  exact tc8 (φ := [(0, false), (1, false), (2, false), (3, false)]) (nils := []) (by kernel_rfl) (e.trans (by rw [h]; rfl)) ⟨by kernel_rfl, by kernel_rfl, by kernel_rfl, by kernel_rfl, trivial⟩ (by kernel_rfl) ⟨by kernel_rfl, by kernel_rfl, trivial⟩
theorem slR7_5 (z : Nat → Int) (L : List Int) (hL : L.length < 65536) (hLe : L = resL z 7) : TC Try.prog 68 o8 (frL' (fo8 7 (.sl 1 0 L.length 1 true none) 5)) 2 (stL (s8' z L)) .normal (frL' (fo8 7 (.sl 1 0 L.length 1 true none) 6)) 2 (stL (s8' z L)) := by
  rw [o8_eq]
  have hr := c7_5 z
  rw [← hLe] at hr
  cases hz : eqb (z 11) 0 with
  | false =>
    have hc := hr.2 hz
    exact TC.seq (slA5 z 7 L ) (TC.seq (TC.block (TC.seq (slB5 z 7 L ) (TC.seq (slI5 z 7 L hL 1 hc) (slD7_5_true_1 z L (by rw [hz]; rfl)))) (.inl rfl)) (slE5 z 7 L ))
  | true =>
    rcases (show ucnt L 5 = 0 ∨ ucnt L 5 = 1 by omega) with hc | hc
    · exact TC.seq (slA5 z 7 L ) (TC.seq (TC.block (TC.seq (slB5 z 7 L ) (TC.seq (slI5 z 7 L hL 0 hc) (slD7_5_false_0 z L (by rw [hz]; rfl)))) (.inl rfl)) (slE5 z 7 L ))
    · exact TC.seq (slA5 z 7 L ) (TC.seq (TC.block (TC.seq (slB5 z 7 L ) (TC.seq (slI5 z 7 L hL 1 hc) (slD7_5_false_1 z L (by rw [hz]; rfl)))) (.inl rfl)) (slE5 z 7 L ))
theorem slD7_6_true_1 (z : Nat → Int) (L : List Int) (h : (!eqb (z 13) 0) = true) : TC Try.prog 68 (sq2 (sq2 in8)) (frL' (fe8 7 (.sl 1 0 L.length 1 true none) 6 1)) 2 (stL (s8' z L)) .normal (frL' (fo8 7 (.sl 1 0 L.length 1 true none) 6)) 2 (stL (s8' z L)) := by
  have e : (oSt (ev8 [(0, true), (1, true), (2, true), (3, true)] [] 2 (sq2 (sq2 in8)) (fe8 7 (.sl 1 0 L.length 1 true none) 6 1) (s8' z L))).ok = okT [(!eqb (z 13) 0) == true, (!eqb (z 13) 0) == true, (!eqb (z 13) 0) == true, (!eqb (z 13) 0) == true] true := by kernel_rfl
  exact tc8 (φ := [(0, true), (1, true), (2, true), (3, true)]) (nils := []) (by kernel_rfl) (e.trans (by rw [h]; rfl)) ⟨by kernel_rfl, by kernel_rfl, by kernel_rfl, by kernel_rfl, trivial⟩ (by kernel_rfl) ⟨by kernel_rfl, by kernel_rfl, trivial⟩
theorem slD7_6_false_0 (z : Nat → Int) (L : List Int) (h : (!eqb (z 13) 0) = false) : TC Try.prog 68 (sq2 (sq2 in8)) (frL' (fe8 7 (.sl 1 0 L.length 1 true none) 6 0)) 2 (stL (s8' z L)) .normal (frL' (fo8 7 (.sl 1 0 L.length 1 true none) 6)) 2 (stL (s8' z L)) := by
  have e : (oSt (ev8 [(0, false), (1, false), (2, false), (3, false)] [] 2 (sq2 (sq2 in8)) (fe8 7 (.sl 1 0 L.length 1 true none) 6 0) (s8' z L))).ok = okT [(!eqb (z 13) 0) == false, (!eqb (z 13) 0) == false, (!eqb (z 13) 0) == false, (!eqb (z 13) 0) == false] true := by kernel_rfl
  exact tc8 (φ := [(0, false), (1, false), (2, false), (3, false)]) (nils := []) (by kernel_rfl) (e.trans (by rw [h]; rfl)) ⟨by kernel_rfl, by kernel_rfl, by kernel_rfl, by kernel_rfl, trivial⟩ (by kernel_rfl) ⟨by kernel_rfl, by kernel_rfl, trivial⟩
theorem slD7_6_false_1 (z : Nat → Int) (L : List Int) (h : (!eqb (z 13) 0) = false) : TC Try.prog 68 (sq2 (sq2 in8)) (frL' (fe8 7 (.sl 1 0 L.length 1 true none) 6 1)) 2 (stL (s8' z L)) .normal (frL' (fo8 7 (.sl 1 0 L.length 1 true none) 6)) 2 (stL (s8' z L)) := by
  have e : (oSt (ev8 [(0, false), (1, false), (2, false), (3, false)] [] 2 (sq2 (sq2 in8)) (fe8 7 (.sl 1 0 L.length 1 true none) 6 1) (s8' z L))).ok = okT [(!eqb (z 13) 0) == false, (!eqb (z 13) 0) == false, (!eqb (z 13) 0) == false, (!eqb (z 13) 0) == false] true := by kernel_rfl
  exact tc8 (φ := [(0, false), (1, false), (2, false), (3, false)]) (nils := []) (by kernel_rfl) (e.trans (by rw [h]; rfl)) ⟨by kernel_rfl, by kernel_rfl, by kernel_rfl, by kernel_rfl, trivial⟩ (by kernel_rfl) ⟨by kernel_rfl, by kernel_rfl, trivial⟩
theorem slR7_6 (z : Nat → Int) (L : List Int) (hL : L.length < 65536) (hLe : L = resL z 7) : TC Try.prog 68 o8 (frL' (fo8 7 (.sl 1 0 L.length 1 true none) 6)) 2 (stL (s8' z L)) .normal (frL' (fo8 7 (.sl 1 0 L.length 1 true none) 7)) 2 (stL (s8' z L)) := by
  rw [o8_eq]
  have hr := c7_6 z
  rw [← hLe] at hr
  cases hz : eqb (z 13) 0 with
  | false =>
    have hc := hr.2 hz
    exact TC.seq (slA6 z 7 L ) (TC.seq (TC.block (TC.seq (slB6 z 7 L ) (TC.seq (slI6 z 7 L hL 1 hc) (slD7_6_true_1 z L (by rw [hz]; rfl)))) (.inl rfl)) (slE6 z 7 L ))
  | true =>
    rcases (show ucnt L 6 = 0 ∨ ucnt L 6 = 1 by omega) with hc | hc
    · exact TC.seq (slA6 z 7 L ) (TC.seq (TC.block (TC.seq (slB6 z 7 L ) (TC.seq (slI6 z 7 L hL 0 hc) (slD7_6_false_0 z L (by rw [hz]; rfl)))) (.inl rfl)) (slE6 z 7 L ))
    · exact TC.seq (slA6 z 7 L ) (TC.seq (TC.block (TC.seq (slB6 z 7 L ) (TC.seq (slI6 z 7 L hL 1 hc) (slD7_6_false_1 z L (by rw [hz]; rfl)))) (.inl rfl)) (slE6 z 7 L ))
theorem slD7_7_true_1 (z : Nat → Int) (L : List Int) (h : (!eqb (z 15) 0) = true) : TC Try.prog 68 (sq2 (sq2 in8)) (frL' (fe8 7 (.sl 1 0 L.length 1 true none) 7 1)) 2 (stL (s8' z L)) .normal (frL' (fo8 7 (.sl 1 0 L.length 1 true none) 7)) 2 (stL (s8' z L)) := by
  have e : (oSt (ev8 [(0, true), (1, true), (2, true), (3, true)] [] 2 (sq2 (sq2 in8)) (fe8 7 (.sl 1 0 L.length 1 true none) 7 1) (s8' z L))).ok = okT [(!eqb (z 15) 0) == true, (!eqb (z 15) 0) == true, (!eqb (z 15) 0) == true, (!eqb (z 15) 0) == true] true := by kernel_rfl
  exact tc8 (φ := [(0, true), (1, true), (2, true), (3, true)]) (nils := []) (by kernel_rfl) (e.trans (by rw [h]; rfl)) ⟨by kernel_rfl, by kernel_rfl, by kernel_rfl, by kernel_rfl, trivial⟩ (by kernel_rfl) ⟨by kernel_rfl, by kernel_rfl, trivial⟩
theorem slD7_7_false_0 (z : Nat → Int) (L : List Int) (h : (!eqb (z 15) 0) = false) : TC Try.prog 68 (sq2 (sq2 in8)) (frL' (fe8 7 (.sl 1 0 L.length 1 true none) 7 0)) 2 (stL (s8' z L)) .normal (frL' (fo8 7 (.sl 1 0 L.length 1 true none) 7)) 2 (stL (s8' z L)) := by
  have e : (oSt (ev8 [(0, false), (1, false), (2, false), (3, false)] [] 2 (sq2 (sq2 in8)) (fe8 7 (.sl 1 0 L.length 1 true none) 7 0) (s8' z L))).ok = okT [(!eqb (z 15) 0) == false, (!eqb (z 15) 0) == false, (!eqb (z 15) 0) == false, (!eqb (z 15) 0) == false] true := by kernel_rfl
  exact tc8 (φ := [(0, false), (1, false), (2, false), (3, false)]) (nils := []) (by kernel_rfl) (e.trans (by rw [h]; rfl)) ⟨by kernel_rfl, by kernel_rfl, by kernel_rfl, by kernel_rfl, trivial⟩ (by kernel_rfl) ⟨by kernel_rfl, by kernel_rfl, trivial⟩
theorem slD7_7_false_1 (z : Nat → Int) (L : List Int) (h : (!eqb (z 15) 0) = false) : TC Try.prog 68 (sq2 (sq2 in8)) (frL' (fe8 7 (.sl 1 0 L.length 1 true none) 7 1)) 2 (stL (s8' z L)) .normal (frL' (fo8 7 (.sl 1 0 L.length 1 true none) 7)) 2 (stL (s8' z L)) := by
  have e : (oSt (ev8 [(0, false), (1, false), (2, false), (3, false)] [] 2 (sq2 (sq2 in8)) (fe8 7 (.sl 1 0 L.length 1 true none) 7 1) (s8' z L))).ok = okT [(!eqb (z 15) 0) == false, (!eqb (z 15) 0) == false, (!eqb (z 15) 0) == false, (!eqb (z 15) 0) == false] true := by kernel_rfl
  exact tc8 (φ := [(0, false), (1, false), (2, false), (3, false)]) (nils := []) (by kernel_rfl) (e.trans (by rw [h]; rfl)) ⟨by kernel_rfl, by kernel_rfl, by kernel_rfl, by kernel_rfl, trivial⟩ (by kernel_rfl) ⟨by kernel_rfl, by kernel_rfl, trivial⟩
theorem slR7_7 (z : Nat → Int) (L : List Int) (hL : L.length < 65536) (hLe : L = resL z 7) : TC Try.prog 68 o8 (frL' (fo8 7 (.sl 1 0 L.length 1 true none) 7)) 2 (stL (s8' z L)) .normal (frL' (fo8 7 (.sl 1 0 L.length 1 true none) 8)) 2 (stL (s8' z L)) := by
  rw [o8_eq]
  have hr := c7_7 z
  rw [← hLe] at hr
  cases hz : eqb (z 15) 0 with
  | false =>
    have hc := hr.2 hz
    exact TC.seq (slA7 z 7 L ) (TC.seq (TC.block (TC.seq (slB7 z 7 L ) (TC.seq (slI7 z 7 L hL 1 hc) (slD7_7_true_1 z L (by rw [hz]; rfl)))) (.inl rfl)) (slE7 z 7 L ))
  | true =>
    rcases (show ucnt L 7 = 0 ∨ ucnt L 7 = 1 by omega) with hc | hc
    · exact TC.seq (slA7 z 7 L ) (TC.seq (TC.block (TC.seq (slB7 z 7 L ) (TC.seq (slI7 z 7 L hL 0 hc) (slD7_7_false_0 z L (by rw [hz]; rfl)))) (.inl rfl)) (slE7 z 7 L ))
    · exact TC.seq (slA7 z 7 L ) (TC.seq (TC.block (TC.seq (slB7 z 7 L ) (TC.seq (slI7 z 7 L hL 1 hc) (slD7_7_false_1 z L (by rw [hz]; rfl)))) (.inl rfl)) (slE7 z 7 L ))
theorem slW7 (z : Nat → Int) (L : List Int) (hL : L.length < 65536) (hLe : L = resL z 7) : TC Try.prog 68 (.seq (.seq (sq1 (sq1 (sq2 out8))) (.block 0 (.loop o8))) (sq2 (sq2 out8))) (frL' [(1, .sc (.int .i64 7)), (2, .ptr 0 0), (5, (.sl 1 0 L.length 1 true none))]) 2 (stL (s8' z L)) .ret (frL' [(4, .sc (.bool true))]) 2 (stL (s8' z L)) :=
  TC.seq (TC.seq (slS z 7 L ) (TC.block (TC.loop (k := 9) (TR.more (slR7_0 z L hL hLe) (TR.more (slR7_1 z L hL hLe) (TR.more (slR7_2 z L hL hLe) (TR.more (slR7_3 z L hL hLe) (TR.more (slR7_4 z L hL hLe) (TR.more (slR7_5 z L hL hLe) (TR.more (slR7_6 z L hL hLe) (TR.more (slR7_7 z L hL hLe) (TR.out (slX z 7 L ) (by simp))))))))))) (.inr rfl))) (slZ z L )
theorem slD8_0_true_0 (z : Nat → Int) (L : List Int) (h : (!eqb (z 1) 0) = true) : TC Try.prog 68 (sq2 (sq2 in8)) (frL' (fe8 8 (.sl 1 0 L.length 1 true none) 0 0)) 2 (stL (s8' z L)) .normal (frL' (fo8 8 (.sl 1 0 L.length 1 true none) 0)) 2 (stL (s8' z L)) := by
  have e : (oSt (ev8 [(0, true), (1, true), (2, true), (3, true)] [] 2 (sq2 (sq2 in8)) (fe8 8 (.sl 1 0 L.length 1 true none) 0 0) (s8' z L))).ok = okT [(!eqb (z 1) 0) == true, (!eqb (z 1) 0) == true, (!eqb (z 1) 0) == true, (!eqb (z 1) 0) == true] true := by kernel_rfl
  exact tc8 (φ := [(0, true), (1, true), (2, true), (3, true)]) (nils := []) (by kernel_rfl) (e.trans (by rw [h]; rfl)) ⟨by kernel_rfl, by kernel_rfl, by kernel_rfl, by kernel_rfl, trivial⟩ (by kernel_rfl) ⟨by kernel_rfl, by kernel_rfl, trivial⟩
theorem slD8_0_false_0 (z : Nat → Int) (L : List Int) (h : (!eqb (z 1) 0) = false) : TC Try.prog 68 (sq2 (sq2 in8)) (frL' (fe8 8 (.sl 1 0 L.length 1 true none) 0 0)) 2 (stL (s8' z L)) .normal (frL' (fo8 8 (.sl 1 0 L.length 1 true none) 0)) 2 (stL (s8' z L)) := by
  have e : (oSt (ev8 [(0, false), (1, false), (2, false), (3, false)] [] 2 (sq2 (sq2 in8)) (fe8 8 (.sl 1 0 L.length 1 true none) 0 0) (s8' z L))).ok = okT [(!eqb (z 1) 0) == false, (!eqb (z 1) 0) == false, (!eqb (z 1) 0) == false, (!eqb (z 1) 0) == false] true := by kernel_rfl
  exact tc8 (φ := [(0, false), (1, false), (2, false), (3, false)]) (nils := []) (by kernel_rfl) (e.trans (by rw [h]; rfl)) ⟨by kernel_rfl, by kernel_rfl, by kernel_rfl, by kernel_rfl, trivial⟩ (by kernel_rfl) ⟨by kernel_rfl, by kernel_rfl, trivial⟩
theorem slR8_0 (z : Nat → Int) (L : List Int) (hL : L.length < 65536) (hLe : L = resL z 8) : TC Try.prog 68 o8 (frL' (fo8 8 (.sl 1 0 L.length 1 true none) 0)) 2 (stL (s8' z L)) .normal (frL' (fo8 8 (.sl 1 0 L.length 1 true none) 1)) 2 (stL (s8' z L)) := by
  rw [o8_eq]
  have hr := c8_0 z
  rw [← hLe] at hr
  have hc := hr
  cases hz : eqb (z 1) 0 with
  | false => exact TC.seq (slA0 z 8 L ) (TC.seq (TC.block (TC.seq (slB0 z 8 L ) (TC.seq (slI0 z 8 L hL 0 hc) (slD8_0_true_0 z L (by rw [hz]; rfl)))) (.inl rfl)) (slE0 z 8 L ))
  | true => exact TC.seq (slA0 z 8 L ) (TC.seq (TC.block (TC.seq (slB0 z 8 L ) (TC.seq (slI0 z 8 L hL 0 hc) (slD8_0_false_0 z L (by rw [hz]; rfl)))) (.inl rfl)) (slE0 z 8 L ))
theorem slD8_1_true_0 (z : Nat → Int) (L : List Int) (h : (!eqb (z 3) 0) = true) : TC Try.prog 68 (sq2 (sq2 in8)) (frL' (fe8 8 (.sl 1 0 L.length 1 true none) 1 0)) 2 (stL (s8' z L)) .normal (frL' (fo8 8 (.sl 1 0 L.length 1 true none) 1)) 2 (stL (s8' z L)) := by
  have e : (oSt (ev8 [(0, true), (1, true), (2, true), (3, true)] [] 2 (sq2 (sq2 in8)) (fe8 8 (.sl 1 0 L.length 1 true none) 1 0) (s8' z L))).ok = okT [(!eqb (z 3) 0) == true, (!eqb (z 3) 0) == true, (!eqb (z 3) 0) == true, (!eqb (z 3) 0) == true] true := by kernel_rfl
  exact tc8 (φ := [(0, true), (1, true), (2, true), (3, true)]) (nils := []) (by kernel_rfl) (e.trans (by rw [h]; rfl)) ⟨by kernel_rfl, by kernel_rfl, by kernel_rfl, by kernel_rfl, trivial⟩ (by kernel_rfl) ⟨by kernel_rfl, by kernel_rfl, trivial⟩
theorem slD8_1_false_0 (z : Nat → Int) (L : List Int) (h : (!eqb (z 3) 0) = false) : TC Try.prog 68 (sq2 (sq2 in8)) (frL' (fe8 8 (.sl 1 0 L.length 1 true none) 1 0)) 2 (stL (s8' z L)) .normal (frL' (fo8 8 (.sl 1 0 L.length 1 true none) 1)) 2 (stL (s8' z L)) := by
  have e : (oSt (ev8 [(0, false), (1, false), (2, false), (3, false)] [] 2 (sq2 (sq2 in8)) (fe8 8 (.sl 1 0 L.length 1 true none) 1 0) (s8' z L))).ok = okT [(!eqb (z 3) 0) == false, (!eqb (z 3) 0) == false, (!eqb (z 3) 0) == false, (!eqb (z 3) 0) == false] true := by kernel_rfl
  exact tc8 (φ := [(0, false), (1, false), (2, false), (3, false)]) (nils := []) (by kernel_rfl) (e.trans (by rw [h]; rfl)) ⟨by kernel_rfl, by kernel_rfl, by kernel_rfl, by kernel_rfl, trivial⟩ (by kernel_rfl) ⟨by kernel_rfl, by kernel_rfl, trivial⟩
theorem slR8_1 (z : Nat → Int) (L : List Int) (hL : L.length < 65536) (hLe : L = resL z 8) : TC Try.prog 68 o8 (frL' (fo8 8 (.sl 1 0 L.length 1 true none) 1)) 2 (stL (s8' z L)) .normal (frL' (fo8 8 (.sl 1 0 L.length 1 true none) 2)) 2 (stL (s8' z L)) := by
  rw [o8_eq]
  have hr := c8_1 z
  rw [← hLe] at hr
  have hc := hr
  cases hz : eqb (z 3) 0 with
  | false => exact TC.seq (slA1 z 8 L ) (TC.seq (TC.block (TC.seq (slB1 z 8 L ) (TC.seq (slI1 z 8 L hL 0 hc) (slD8_1_true_0 z L (by rw [hz]; rfl)))) (.inl rfl)) (slE1 z 8 L ))
  | true => exact TC.seq (slA1 z 8 L ) (TC.seq (TC.block (TC.seq (slB1 z 8 L ) (TC.seq (slI1 z 8 L hL 0 hc) (slD8_1_false_0 z L (by rw [hz]; rfl)))) (.inl rfl)) (slE1 z 8 L ))
theorem slD8_2_true_0 (z : Nat → Int) (L : List Int) (h : (!eqb (z 5) 0) = true) : TC Try.prog 68 (sq2 (sq2 in8)) (frL' (fe8 8 (.sl 1 0 L.length 1 true none) 2 0)) 2 (stL (s8' z L)) .normal (frL' (fo8 8 (.sl 1 0 L.length 1 true none) 2)) 2 (stL (s8' z L)) := by
  have e : (oSt (ev8 [(0, true), (1, true), (2, true), (3, true)] [] 2 (sq2 (sq2 in8)) (fe8 8 (.sl 1 0 L.length 1 true none) 2 0) (s8' z L))).ok = okT [(!eqb (z 5) 0) == true, (!eqb (z 5) 0) == true, (!eqb (z 5) 0) == true, (!eqb (z 5) 0) == true] true := by kernel_rfl
  exact tc8 (φ := [(0, true), (1, true), (2, true), (3, true)]) (nils := []) (by kernel_rfl) (e.trans (by rw [h]; rfl)) ⟨by kernel_rfl, by kernel_rfl, by kernel_rfl, by kernel_rfl, trivial⟩ (by kernel_rfl) ⟨by kernel_rfl, by kernel_rfl, trivial⟩
theorem slD8_2_false_0 (z : Nat → Int) (L : List Int) (h : (!eqb (z 5) 0) = false) : TC Try.prog 68 (sq2 (sq2 in8)) (frL' (fe8 8 (.sl 1 0 L.length 1 true none) 2 0)) 2 (stL (s8' z L)) .normal (frL' (fo8 8 (.sl 1 0 L.length 1 true none) 2)) 2 (stL (s8' z L)) := by
  have e : (oSt (ev8 [(0, false), (1, false), (2, false), (3, false)] [] 2 (sq2 (sq2 in8)) (fe8 8 (.sl 1 0 L.length 1 true none) 2 0) (s8' z L))).ok = okT [(!eqb (z 5) 0) == false, (!eqb (z 5) 0) == false, (!eqb (z 5) 0) == false, (!eqb (z 5) 0) == false] true := by kernel_rfl
  exact tc8 (φ := [(0, false), (1, false), (2, false), (3, false)]) (nils := []) (by kernel_rfl) (e.trans (by rw [h]; rfl)) ⟨by kernel_rfl, by kernel_rfl, by kernel_rfl, by kernel_rfl, trivial⟩ (by kernel_rfl) ⟨by kernel_rfl, by kernel_rfl, trivial⟩
theorem slR8_2 (z : Nat → Int) (L : List Int) (hL : L.length < 65536) (hLe : L = resL z 8) : TC Try.prog 68 o8 (frL' (fo8 8 (.sl 1 0 L.length 1 true none) 2)) 2 (stL (s8' z L)) .normal (frL' (fo8 8 (.sl 1 0 L.length 1 true none) 3)) 2 (stL (s8' z L)) := by
  rw [o8_eq]
  have hr := c8_2 z
  rw [← hLe] at hr
  have hc := hr
  cases hz : eqb (z 5) 0 with
  | false => exact TC.seq (slA2 z 8 L ) (TC.seq (TC.block (TC.seq (slB2 z 8 L ) (TC.seq (slI2 z 8 L hL 0 hc) (slD8_2_true_0 z L (by rw [hz]; rfl)))) (.inl rfl)) (slE2 z 8 L ))
  | true => exact TC.seq (slA2 z 8 L ) (TC.seq (TC.block (TC.seq (slB2 z 8 L ) (TC.seq (slI2 z 8 L hL 0 hc) (slD8_2_false_0 z L (by rw [hz]; rfl)))) (.inl rfl)) (slE2 z 8 L ))
theorem slD8_3_true_0 (z : Nat → Int) (L : List Int) (h : (!eqb (z 7) 0) = true) : TC Try.prog 68 (sq2 (sq2 in8)) (frL' (fe8 8 (.sl 1 0 L.length 1 true none) 3 0)) 2 (stL (s8' z L)) .normal (frL' (fo8 8 (.sl 1 0 L.length 1 true none) 3)) 2 (stL (s8' z L)) := by
  have e : (oSt (ev8 [(0, true), (1, true), (2, true), (3, true)] [] 2 (sq2 (sq2 in8)) (fe8 8 (.sl 1 0 L.length 1 true none) 3 0) (s8' z L))).ok = okT [(!eqb (z 7) 0) == true, (!eqb (z 7) 0) == true, (!eqb (z 7) 0) == true, (!eqb (z 7) 0) == true] true := by kernel_rfl
  exact tc8 (φ := [(0, true), (1, true), (2, true), (3, true)]) (nils := []) (by kernel_rfl) (e.trans (by rw [h]; rfl)) ⟨by kernel_rfl, by kernel_rfl, by kernel_rfl, by kernel_rfl, trivial⟩ (by kernel_rfl) ⟨by kernel_rfl, by kernel_rfl, trivial⟩
theorem slD8_3_false_0 (z : Nat → Int) (L : List Int) (h : (!eqb (z 7) 0) = false) : TC Try.prog 68 (sq2 (sq2 in8)) (frL' (fe8 8 (.sl 1 0 L.length 1 true none) 3 0)) 2 (stL (s8' z L)) .normal (frL' (fo8 8 (.sl 1 0 L.length 1 true none) 3)) 2 (stL (s8' z L)) := by
  have e : (oSt (ev8 [(0, false), (1, false), (2, false), (3, false)] [] 2 (sq2 (sq2 in8)) (fe8 8 (.sl 1 0 L.length 1 true none) 3 0) (s8' z L))).ok = okT [(!eqb (z 7) 0) == false, (!eqb (z 7) 0) == false, (!eqb (z 7) 0) == false, (!eqb (z 7) 0) == false] true := by kernel_rfl
  exact tc8 (φ := [(0, false), (1, false), (2, false), (3, false)]) (nils := []) (by kernel_rfl) (e.trans (by rw [h]; rfl)) ⟨by kernel_rfl, by kernel_rfl, by kernel_rfl, by kernel_rfl, trivial⟩ (by kernel_rfl) ⟨by kernel_rfl, by kernel_rfl, trivial⟩
theorem slR8_3 (z : Nat → Int) (L : List Int) (hL : L.length < 65536) (hLe : L = resL z 8) : TC Try.prog 68 o8 (frL' (fo8 8 (.sl 1 0 L.length 1 true none) 3)) 2 (stL (s8' z L)) .normal (frL' (fo8 8 (.sl 1 0 L.length 1 true none) 4)) 2 (stL (s8' z L)) := by
  rw [o8_eq]
  have hr := c8_3 z
  rw [← hLe] at hr
  have hc := hr
  cases hz : eqb (z 7) 0 with
  | false => exact TC.seq (slA3 z 8 L ) (TC.seq (TC.block (TC.seq (slB3 z 8 L ) (TC.seq (slI3 z 8 L hL 0 hc) (slD8_3_true_0 z L (by rw [hz]; rfl)))) (.inl rfl)) (slE3 z 8 L ))
  | true => exact TC.seq (slA3 z 8 L ) (TC.seq (TC.block (TC.seq (slB3 z 8 L ) (TC.seq (slI3 z 8 L hL 0 hc) (slD8_3_false_0 z L (by rw [hz]; rfl)))) (.inl rfl)) (slE3 z 8 L ))
theorem slD8_4_true_1 (z : Nat → Int) (L : List Int) (h : (!eqb (z 9) 0) = true) : TC Try.prog 68 (sq2 (sq2 in8)) (frL' (fe8 8 (.sl 1 0 L.length 1 true none) 4 1)) 2 (stL (s8' z L)) .normal (frL' (fo8 8 (.sl 1 0 L.length 1 true none) 4)) 2 (stL (s8' z L)) := by
  have e : (oSt (ev8 [(0, true), (1, true), (2, true), (3, true)] [] 2 (sq2 (sq2 in8)) (fe8 8 (.sl 1 0 L.length 1 true none) 4 1) (s8' z L))).ok = okT [(!eqb (z 9) 0) == true, (!eqb (z 9) 0) == true, (!eqb (z 9) 0) == true, (!eqb (z 9) 0) == true] true := by kernel_rfl
  exact tc8 (φ := [(0, true), (1, true), (2, true), (3, true)]) (nils := []) (by kernel_rfl) (e.trans (by rw [h]; rfl)) ⟨by kernel_rfl, by kernel_rfl, by kernel_rfl, by kernel_rfl, trivial⟩ (by kernel_rfl) ⟨by kernel_rfl, by kernel_rfl, trivial⟩
theorem slD8_4_false_0 (z : Nat → Int) (L : List Int) (h : (!eqb (z 9) 0) = false) : TC Try.prog 68 (sq2 (sq2 in8)) (frL' (fe8 8 (.sl 1 0 L.length 1 true none) 4 0)) 2 (stL (s8' z L)) .normal (frL' (fo8 8 (.sl 1 0 L.length 1 true none) 4)) 2 (stL (s8' z L)) := by
  have e : (oSt (ev8 [(0, false), (1, false), (2, false), (3, false)] [] 2 (sq2 (sq2 in8)) (fe8 8 (.sl 1 0 L.length 1 true none) 4 0) (s8' z L))).ok = okT [(!eqb (z 9) 0) == false, (!eqb (z 9) 0) == false, (!eqb (z 9) 0) == false, (!eqb (z 9) 0) == false] true := by kernel_rfl
  exact tc8 (φ := [(0, false), (1, false), (2, false), (3, false)]) (nils := []) (by kernel_rfl) (e.trans (by rw [h]; rfl)) ⟨by kernel_rfl, by kernel_rfl, by kernel_rfl, by kernel_rfl, trivial⟩ (by kernel_rfl) ⟨by kernel_rfl, by kernel_rfl, trivial⟩
theorem slD8_4_false_1 (z : Nat → Int) (L : List Int) (h : (!eqb (z 9) 0) = false) : TC Try.prog 68 (sq2 (sq2 in8)) (frL' (fe8 8 (.sl 1 0 L.length 1 true none) 4 1)) 2 (stL (s8' z L)) .normal (frL' (fo8 8 (.sl 1 0 L.length 1 true none) 4)) 2 (stL (s8' z L)) := by
  have e : (oSt (ev8 [(0, false), (1, false), (2, false), (3, false)] [] 2 (sq2 (sq2 in8)) (fe8 8 (.sl 1 0 L.length 1 true none) 4 1) (s8' z L))).ok = okT [(!eqb (z 9) 0) == false, (!eqb (z 9) 0) == false, (!eqb (z 9) 0) == false, (!eqb (z 9) 0) == false] true := by kernel_rfl
  exact tc8 (φ := [(0, false), (1, false), (2, false), (3, false)]) (nils := []) (by kernel_rfl) (e.trans (by rw [h]; rfl)) ⟨by kernel_rfl, by kernel_rfl, by kernel_rfl, by kernel_rfl, trivial⟩ (by kernel_rfl) ⟨by kernel_rfl, by kernel_rfl, trivial⟩
theorem slR8_4 (z : Nat → Int) (L : List Int) (hL : L.length < 65536) (hLe : L = resL z 8) : TC Try.prog 68 o8 (frL' (fo8 8 (.sl 1 0 L.length 1 true none) 4)) 2 (stL (s8' z L)) .normal (frL' (fo8 8 (.sl 1 0 L.length 1 true none) 5)) 2 (stL (s8' z L)) := by
  rw [o8_eq]
  have hr := c8_4 z
  rw [← hLe] at hr
  cases hz : eqb (z 9) 0 with
  | false =>
    have hc := hr.2 hz
    exact TC.seq (slA4 z 8 L ) (TC.seq (TC.block (TC.seq (slB4 z 8 L ) (TC.seq (slI4 z 8 L hL 1 hc) (slD8_4_true_1 z L (by rw [hz]; rfl)))) (.inl rfl)) (slE4 z 8 L ))
  | true =>
    rcases (show ucnt L 4 = 0 ∨ ucnt L 4 = 1 by omega) with hc | hc
    · exact TC.seq (slA4 z 8 L ) (TC.seq (TC.block (TC.seq (slB4 z 8 L ) (TC.seq (slI4 z 8 L hL 0 hc) (slD8_4_false_0 z L (by rw [hz]; rfl)))) (.inl rfl)) (slE4 z 8 L ))
    · exact TC.seq (slA4 z 8 L ) (TC.seq (TC.block (TC.seq (slB4 z 8 L ) (TC.seq (slI4 z 8 L hL 1 hc) (slD8_4_false_1 z L (by rw [hz]; rfl)))) (.inl rfl)) (slE4 z 8 L ))
theorem slD8_5_true_0 (z : Nat → Int) (L : List Int) (h : (!eqb (z 11) 0) = true) : TC Try.prog 68 (sq2 (sq2 in8)) (frL' (fe8 8 (.sl 1 0 L.length 1 true none) 5 0)) 2 (stL (s8' z L)) .normal (frL' (fo8 8 (.sl 1 0 L.length 1 true none) 5)) 2 (stL (s8' z L)) := by
  have e : (oSt (ev8 [(0, true), (1, true), (2, true), (3, true)] [] 2 (sq2 (sq2 in8)) (fe8 8 (.sl 1 0 L.length 1 true none) 5 0) (s8' z L))).ok = okT [(!eqb (z 11) 0) == true, (!eqb (z 11) 0) == true, (!eqb (z 11) 0) == true, (!eqb (z 11) 0) == true] true := by kernel_rfl
  exact tc8 (φ := [(0, true), (1, true), (2, true), (3, true)]) (nils := []) (by kernel_rfl) (e.trans (by rw [h]; rfl)) ⟨by kernel_rfl, by kernel_rfl, by kernel_rfl, by kernel_rfl, trivial⟩ (by kernel_rfl) ⟨by kernel_rfl, by kernel_rfl, trivial⟩
theorem slD8_5_false_0 (z : Nat → Int) (L : List Int) (h : (!eqb (z 11) 0) = false) : TC Try.prog 68 (sq2 (sq2 in8)) (frL' (fe8 8 (.sl 1 0 L.length 1 true none) 5 0)) 2 (stL (s8' z L)) .normal (frL' (fo8 8 (.sl 1 0 L.length 1 true none) 5)) 2 (stL (s8' z L)) := by
  have e : (oSt (ev8 [(0, false), (1, false), (2, false), (3, false)] [] 2 (sq2 (sq2 in8)) (fe8 8 (.sl 1 0 L.length 1 true none) 5 0) (s8' z L))).ok = okT [(!eqb (z 11) 0) == false, (!eqb (z 11) 0) == false, (!eqb (z 11) 0) == false, (!eqb (z 11) 0) == false] true := by kernel_rfl
  exact tc8 (φ := [(0, false), (1, false), (2, false), (3, false)]) (nils := []) (by kernel_rfl) (e.trans (by rw [h]; rfl)) ⟨by kernel_rfl, by kernel_rfl, by kernel_rfl, by kernel_rfl, trivial⟩ (by kernel_rfl) ⟨by kernel_rfl, by kernel_rfl, trivial⟩
theorem slR8_5 (z : Nat → Int) (L : List Int) (hL : L.length < 65536) (hLe : L = resL z 8) : TC Try.prog 68 o8 (frL' (fo8 8 (.sl 1 0 L.length 1 true none) 5)) 2 (stL (s8' z L)) .normal (frL' (fo8 8 (.sl 1 0 L.length 1 true none) 6)) 2 (stL (s8' z L)) := by
  rw [o8_eq]
  have hr := c8_5 z
  rw [← hLe] at hr
  have hc := hr
  cases hz : eqb (z 11) 0 with
  | false => exact TC.seq (slA5 z 8 L ) (TC.seq (TC.block (TC.seq (slB5 z 8 L ) (TC.seq (slI5 z 8 L hL 0 hc) (slD8_5_true_0 z L (by rw [hz]; rfl)))) (.inl rfl)) (slE5 z 8 L ))
  | true => exact TC.seq (slA5 z 8 L ) (TC.seq (TC.block (TC.seq (slB5 z 8 L ) (TC.seq (slI5 z 8 L hL 0 hc) (slD8_5_false_0 z L (by rw [hz]; rfl)))) (.inl rfl)) (slE5 z 8 L ))
theorem slD8_6_true_0 (z : Nat → Int) (L : List Int) (h : (!eqb (z 13) 0) = true) : TC Try.prog 68 (sq2 (sq2 in8)) (frL' (fe8 8 (.sl 1 0 L.length 1 true none) 6 0)) 2 (stL (s8' z L)) .normal (frL' (fo8 8 (.sl 1 0 L.length 1 true none) 6)) 2 (stL (s8' z L)) := by
  have e : (oSt (ev8 [(0, true), (1, true), (2, true), (3, true)] [] 2 (sq2 (sq2 in8)) (fe8 8 (.sl 1 0 L.length 1 true none) 6 0) (s8' z L))).ok = okT [(!eqb (z 13) 0) == true, (!eqb (z 13) 0) == true, (!eqb (z 13) 0) == true, (!eqb (z 13) 0) == true] true := by kernel_rfl
  exact tc8 (φ := [(0, true), (1, true), (2, true), (3, true)]) (nils := []) (by kernel_rfl) (e.trans (by rw [h]; rfl)) ⟨by kernel_rfl, by kernel_rfl, by kernel_rfl, by kernel_rfl, trivial⟩ (by kernel_rfl) ⟨by kernel_rfl, by kernel_rfl, trivial⟩
theorem slD8_6_false_0 (z : Nat → Int) (L : List Int) (h : (!eqb (z 13) 0) = false) : TC Try.prog 68 (sq2 (sq2 in8)) (frL' (fe8 8 (.sl 1 0 L.length 1 true none) 6 0)) 2 (stL (s8' z L)) .normal (frL' (fo8 8 (.sl 1 0 L.length 1 true none) 6)) 2 (stL (s8' z L)) := by
  have e : (oSt (ev8 [(0, false), (1, false), (2, false), (3, false)] [] 2 (sq2 (sq2 in8)) (fe8 8 (.sl 1 0 L.length 1 true none) 6 0) (s8' z L))).ok = okT [(!eqb (z 13) 0) == false, (!eqb (z 13) 0) == false, (!eqb (z 13) 0) == false, (!eqb (z 13) 0) == false] true := by kernel_rfl
  exact tc8 (φ := [(0, false), (1, false), (2, false), (3, false)]) (nils := []) (by kernel_rfl) (e.trans (by rw [h]; rfl)) ⟨by kernel_rfl, by kernel_rfl, by kernel_rfl, by kernel_rfl, trivial⟩ (by kernel_rfl) ⟨by kernel_rfl, by kernel_rfl, trivial⟩
theorem slR8_6 (z : Nat → Int) (L : List Int) (hL : L.length < 65536) (hLe : L = resL z 8) : TC Try.prog 68 o8 (frL' (fo8 8 (.sl 1 0 L.length 1 true none) 6)) 2 (stL (s8' z L)) .normal (frL' (fo8 8 (.sl 1 0 L.length 1 true none) 7)) 2 (stL (s8' z L)) := by
  rw [o8_eq]
  have hr := c8_6 z
  rw [← hLe] at hr
  have hc := hr
  cases hz : eqb (z 13) 0 with
  | false => exact TC.seq (slA6 z 8 L ) (TC.seq (TC.block (TC.seq (slB6 z 8 L ) (TC.seq (slI6 z 8 L hL 0 hc) (slD8_6_true_0 z L (by rw [hz]; rfl)))) (.inl rfl)) (slE6 z 8 L ))
  | true => exact TC.seq (slA6 z 8 L ) (TC.seq (TC.block (TC.seq (slB6 z 8 L ) (TC.seq (slI6 z 8 L hL 0 hc) (slD8_6_false_0 z L (by rw [hz]; rfl)))) (.inl rfl)) (slE6 z 8 L ))
theorem slD8_7_true_0 (z : Nat → Int) (L : List Int) (h : (!eqb (z 15) 0) = true) : TC Try.prog 68 (sq2 (sq2 in8)) (frL' (fe8 8 (.sl 1 0 L.length 1 true none) 7 0)) 2 (stL (s8' z L)) .normal (frL' (fo8 8 (.sl 1 0 L.length 1 true none) 7)) 2 (stL (s8' z L)) := by
  have e : (oSt (ev8 [(0, true), (1, true), (2, true), (3, true)] [] 2 (sq2 (sq2 in8)) (fe8 8 (.sl 1 0 L.length 1 true none) 7 0) (s8' z L))).ok = okT [(!eqb (z 15) 0) == true, (!eqb (z 15) 0) == true, (!eqb (z 15) 0) == true, (!eqb (z 15) 0) == true] true := by kernel_rfl
  exact tc8 (φ := [(0, true), (1, true), (2, true), (3, true)]) (nils := []) (by kernel_rfl) (e.trans (by rw [h]; rfl)) ⟨by kernel_rfl, by kernel_rfl, by kernel_rfl, by kernel_rfl, trivial⟩ (by kernel_rfl) ⟨by kernel_rfl, by kernel_rfl, trivial⟩
theorem slD8_7_false_0 (z : Nat → Int) (L : List Int) (h : (!eqb (z 15) 0) = false) : TC Try.prog 68 (sq2 (sq2 in8)) (frL' (fe8 8 (.sl 1 0 L.length 1 true none) 7 0)) 2 (stL (s8' z L)) .normal (frL' (fo8 8 (.sl 1 0 L.length 1 true none) 7)) 2 (stL (s8' z L)) := by
  have e : (oSt (ev8 [(0, false), (1, false), (2, false), (3, false)] [] 2 (sq2 (sq2 in8)) (fe8 8 (.sl 1 0 L.length 1 true none) 7 0) (s8' z L))).ok = okT [(!eqb (z 15) 0) == false, (!eqb (z 15) 0) == false, (!eqb (z 15) 0) == false, (!eqb (z 15) 0) == false] true := by kernel_rfl
  exact tc8 (φ := [(0, false), (1, false), (2, false), (3, false)]) (nils := []) (by kernel_rfl) (e.trans (by rw [h]; rfl)) ⟨by kernel_rfl, by kernel_rfl, by kernel_rfl, by kernel_rfl, trivial⟩ (by kernel_rfl) ⟨by kernel_rfl, by kernel_rfl, trivial⟩
theorem slR8_7 (z : Nat → Int) (L : List Int) (hL : L.length < 65536) (hLe : L = resL z 8) : TC Try.prog 68 o8 (frL' (fo8 8 (.sl 1 0 L.length 1 true none) 7)) 2 (stL (s8' z L)) .normal (frL' (fo8 8 (.sl 1 0 L.length 1 true none) 8)) 2 (stL (s8' z L)) := by
  rw [o8_eq]
  have hr := c8_7 z
  rw [← hLe] at hr
  have hc := hr
  cases hz : eqb (z 15) 0 with
  | false => exact TC.seq (slA7 z 8 L ) (TC.seq (TC.block (TC.seq (slB7 z 8 L ) (TC.seq (slI7 z 8 L hL 0 hc) (slD8_7_true_0 z L (by rw [hz]; rfl)))) (.inl rfl)) (slE7 z 8 L ))
  | true => exact TC.seq (slA7 z 8 L ) (TC.seq (TC.block (TC.seq (slB7 z 8 L ) (TC.seq (slI7 z 8 L hL 0 hc) (slD8_7_false_0 z L (by rw [hz]; rfl)))) (.inl rfl)) (slE7 z 8 L ))
theorem slW8 (z : Nat → Int) (L : List Int) (hL : L.length < 65536) (hLe : L = resL z 8) : TC Try.prog 68 (.seq (.seq (sq1 (sq1 (sq2 out8))) (.block 0 (.loop o8))) (sq2 (sq2 out8))) (frL' [(1, .sc (.int .i64 8)), (2, .ptr 0 0), (5, (.sl 1 0 L.length 1 true none))]) 2 (stL (s8' z L)) .ret (frL' [(4, .sc (.bool true))]) 2 (stL (s8' z L)) :=
  TC.seq (TC.seq (slS z 8 L ) (TC.block (TC.loop (k := 9) (TR.more (slR8_0 z L hL hLe) (TR.more (slR8_1 z L hL hLe) (TR.more (slR8_2 z L hL hLe) (TR.more (slR8_3 z L hL hLe) (TR.more (slR8_4 z L hL hLe) (TR.more (slR8_5 z L hL hLe) (TR.more (slR8_6 z L hL hLe) (TR.more (slR8_7 z L hL hLe) (TR.out (slX z 8 L ) (by simp))))))))))) (.inr rfl))) (slZ z L )
theorem slD9_0_true_0 (z : Nat → Int) (L : List Int) (h : (!eqb (z 1) 0) = true) : TC Try.prog 68 (sq2 (sq2 in8)) (frL' (fe8 9 (.sl 1 0 L.length 1 true none) 0 0)) 2 (stL (s8' z L)) .normal (frL' (fo8 9 (.sl 1 0 L.length 1 true none) 0)) 2 (stL (s8' z L)) := by
  have e : (oSt (ev8 [(0, true), (1, true), (2, true), (3, true)] [] 2 (sq2 (sq2 in8)) (fe8 9 (.sl 1 0 L.length 1 true none) 0 0) (s8' z L))).ok = okT [(!eqb (z 1) 0) == true, (!eqb (z 1) 0) == true, (!eqb (z 1) 0) == true, (!eqb (z 1) 0) == true] true := by kernel_rfl
  exact tc8 (φ := [(0, true), (1, true), (2, true), (3, true)]) (nils := []) (by kernel_rfl) (e.trans (by rw [h]; rfl)) ⟨by kernel_rfl, by kernel_rfl, by kernel_rfl, by kernel_rfl, trivial⟩ (by kernel_rfl) ⟨by kernel_rfl, by kernel_rfl, trivial⟩
theorem slD9_0_false_0 (z : Nat → Int) (L : List Int) (h : (!eqb (z 1) 0) = false) : TC Try.prog 68 (sq2 (sq2 in8)) (frL' (fe8 9 (.sl 1 0 L.length 1 true none) 0 0)) 2 (stL (s8' z L)) .normal (frL' (fo8 9 (.sl 1 0 L.length 1 true none) 0)) 2 (stL (s8' z L)) := by
  have e : (oSt (ev8 [(0, false), (1, false), (2, false), (3, false)] [] 2 (sq2 (sq2 in8)) (fe8 9 (.sl 1 0 L.length 1 true none) 0 0) (s8' z L))).ok = okT [(!eqb (z 1) 0) == false, (!eqb (z 1) 0) == false, (!eqb (z 1) 0) == false, (!eqb (z 1) 0) == false] true := by kernel_rfl
  exact tc8 (φ := [(0, false), (1, false), (2, false), (3, false)]) (nils := []) (by kernel_rfl) (e.trans (by rw [h]; rfl)) ⟨by kernel_rfl, by kernel_rfl, by kernel_rfl, by kernel_rfl, trivial⟩ (by kernel_rfl) ⟨by kernel_rfl, by kernel_rfl, trivial⟩
theorem slR9_0 (z : Nat → Int) (L : List Int) (hL : L.length < 65536) (hLe : L = resL z 9) : TC Try.prog 68 o8 (frL' (fo8 9 (.sl 1 0 L.length 1 true none) 0)) 2 (stL (s8' z L)) .normal (frL' (fo8 9 (.sl 1 0 L.length 1 true none) 1)) 2 (stL (s8' z L)) := by
  rw [o8_eq]
  have hr := c9_0 z
  rw [← hLe] at hr
  have hc := hr
  cases hz : eqb (z 1) 0 with
  | false => exact TC.seq (slA0 z 9 L ) (TC.seq (TC.block (TC.seq (slB0 z 9 L ) (TC.seq (slI0 z 9 L hL 0 hc) (slD9_0_true_0 z L (by rw [hz]; rfl)))) (.inl rfl)) (slE0 z 9 L ))
  | true => exact TC.seq (slA0 z 9 L ) (TC.seq (TC.block (TC.seq (slB0 z 9 L ) (TC.seq (slI0 z 9 L hL 0 hc) (slD9_0_false_0 z L (by rw [hz]; rfl)))) (.inl rfl)) (slE0 z 9 L ))
theorem slD9_1_true_0 (z : Nat → Int) (L : List Int) (h : (!eqb (z 3) 0) = true) : TC Try.prog 68 (sq2 (sq2 in8)) (frL' (fe8 9 (.sl 1 0 L.length 1 true none) 1 0)) 2 (stL (s8' z L)) .normal (frL' (fo8 9 (.sl 1 0 L.length 1 true none) 1)) 2 (stL (s8' z L)) := by
  have e : (oSt (ev8 [(0, true), (1, true), (2, true), (3, true)] [] 2 (sq2 (sq2 in8)) (fe8 9 (.sl 1 0 L.length 1 true none) 1 0) (s8' z L))).ok = okT [(!eqb (z 3) 0) == true, (!eqb (z 3) 0) == true, (!eqb (z 3) 0) == true, (!eqb (z 3) 0) == true] true := by kernel_rfl
  exact tc8 (φ := [(0, true), (1, true), (2, true), (3, true)]) (nils := []) (by kernel_rfl) (e.trans (by rw [h]; rfl)) ⟨by kernel_rfl, by kernel_rfl, by kernel_rfl, by kernel_rfl, trivial⟩ (by kernel_rfl) ⟨by kernel_rfl, by kernel_rfl, trivial⟩
theorem slD9_1_false_0 (z : Nat → Int) (L : List Int) (h : (!eqb (z 3) 0) = false) : TC Try.prog 68 (sq2 (sq2 in8)) (frL' (fe8 9 (.sl 1 0 L.length 1 true none) 1 0)) 2 (stL (s8' z L)) .normal (frL' (fo8 9 (.sl 1 0 L.length 1 true none) 1)) 2 (stL (s8' z L)) := by
  have e : (oSt (ev8 [(0, false), (1, false), (2, false), (3, false)] [] 2 (sq2 (sq2 in8)) (fe8 9 (.sl 1 0 L.length 1 true none) 1 0) (s8' z L))).ok = okT [(!eqb (z 3) 0) == false, (!eqb (z 3) 0) == false, (!eqb (z 3) 0) == false, (!eqb (z 3) 0) == false] true := by kernel_rfl
  exact tc8 (φ := [(0, false), (1, false), (2, false), (3, false)]) (nils := []) (by kernel_rfl) (e.trans (by rw [h]; rfl)) ⟨by kernel_rfl, by kernel_rfl, by kernel_rfl, by kernel_rfl, trivial⟩ (by kernel_rfl) ⟨by kernel_rfl, by kernel_rfl, trivial⟩
theorem slR9_1 (z : Nat → Int) (L : List Int) (hL : L.length < 65536) (hLe : L = resL z 9) : TC Try.prog 68 o8 (frL' (fo8 9 (.sl 1 0 L.length 1 true none) 1)) 2 (stL (s8' z L)) .normal (frL' (fo8 9 (.sl 1 0 L.length 1 true none) 2)) 2 (stL (s8' z L)) := by
  rw [o8_eq]
  have hr := c9_1 z
  rw [← hLe] at hr
  have hc := hr
  cases hz : eqb (z 3) 0 with
  | false => exact TC.seq (slA1 z 9 L ) (TC.seq (TC.block (TC.seq (slB1 z 9 L ) (TC.seq (slI1 z 9 L hL 0 hc) (slD9_1_true_0 z L (by rw [hz]; rfl)))) (.inl rfl)) (slE1 z 9 L ))
  | true => exact TC.seq (slA1 z 9 L ) (TC.seq (TC.block (TC.seq (slB1 z 9 L ) (TC.seq (slI1 z 9 L hL 0 hc) (slD9_1_false_0 z L (by rw [hz]; rfl)))) (.inl rfl)) (slE1 z 9 L ))
theorem slD9_2_true_0 (z : Nat → Int) (L : List Int) (h : (!eqb (z 5) 0) = true) : TC Try.prog 68 (sq2 (sq2 in8)) (frL' (fe8 9 (.sl 1 0 L.length 1 true none) 2 0)) 2 (stL (s8' z L)) .normal (frL' (fo8 9 (.sl 1 0 L.length 1 true none) 2)) 2 (stL (s8' z L)) := by
  have e : (oSt (ev8 [(0, true), (1, true), (2, true), (3, true)] [] 2 (sq2 (sq2 in8)) (fe8 9 (.sl 1 0 L.length 1 true none) 2 0) (s8' z L))).ok = okT [(!eqb (z 5) 0) == true, (!eqb (z 5) 0) == true, (!eqb (z 5) 0) == true, (!eqb (z 5) 0) == true] true := by kernel_rfl
  exact tc8 (φ := [(0, true), (1, true), (2, true), (3, true)]) (nils := []) (by kernel_rfl) (e.trans (by rw [h]; rfl)) ⟨by kernel_rfl, by kernel_rfl, by kernel_rfl, by kernel_rfl, trivial⟩ (by kernel_rfl) ⟨by kernel_rfl, by kernel_rfl, trivial⟩
theorem slD9_2_false_0 (z : Nat → Int) (L : List Int) (h : (!eqb (z 5) 0) = false) : TC Try.prog 68 (sq2 (sq2 in8)) (frL' (fe8 9 (.sl 1 0 L.length 1 true none) 2 0)) 2 (stL (s8' z L)) .normal (frL' (fo8 9 (.sl 1 0 L.length 1 true none) 2)) 2 (stL (s8' z L)) := by
  have e : (oSt (ev8 [(0, false), (1, false), (2, false), (3, false)] [] 2 (sq2 (sq2 in8)) (fe8 9 (.sl 1 0 L.length 1 true none) 2 0) (s8' z L))).ok = okT [(!eqb (z 5) 0) == false, (!eqb (z 5) 0) == false, (!eqb (z 5) 0) == false, (!eqb (z 5) 0) == false] true := by kernel_rfl
  exact tc8 (φ := [(0, false), (1, false), (2, false), (3, false)]) (nils := []) (by kernel_rfl) (e.trans (by rw [h]; rfl)) ⟨by kernel_rfl, by kernel_rfl, by kernel_rfl, by kernel_rfl, trivial⟩ (by kernel_rfl) ⟨by kernel_rfl, by kernel_rfl, trivial⟩
theorem slR9_2 (z : Nat → Int) (L : List Int) (hL : L.length < 65536) (hLe : L = resL z 9) : TC Try.prog 68 o8 (frL' (fo8 9 (.sl 1 0 L.length 1 true none) 2)) 2 (stL (s8' z L)) .normal (frL' (fo8 9 (.sl 1 0 L.length 1 true none) 3)) 2 (stL (s8' z L)) := by
  rw [o8_eq]
  have hr := c9_2 z
  rw [← hLe] at hr
  have hc := hr
  cases hz : eqb (z 5) 0 with
  | false => exact TC.seq (slA2 z 9 L ) (TC.seq (TC.block (TC.seq (slB2 z 9 L ) (TC.seq (slI2 z 9 L hL 0 hc) (slD9_2_true_0 z L (by rw [hz]; rfl)))) (.inl rfl)) (slE2 z 9 L ))
  | true => exact TC.seq (slA2 z 9 L ) (TC.seq (TC.block (TC.seq (slB2 z 9 L ) (TC.seq (slI2 z 9 L hL 0 hc) (slD9_2_false_0 z L (by rw [hz]; rfl)))) (.inl rfl)) (slE2 z 9 L ))
theorem slD9_3_true_0 (z : Nat → Int) (L : List Int) (h : (!eqb (z 7) 0) = true) : TC Try.prog 68 (sq2 (sq2 in8)) (frL' (fe8 9 (.sl 1 0 L.length 1 true none) 3 0)) 2 (stL (s8' z L)) .normal (frL' (fo8 9 (.sl 1 0 L.length 1 true none) 3)) 2 (stL (s8' z L)) := by
  have e : (oSt (ev8 [(0, true), (1, true), (2, true), (3, true)] [] 2 (sq2 (sq2 in8)) (fe8 9 (.sl 1 0 L.length 1 true none) 3 0) (s8' z L))).ok = okT [(!eqb (z 7) 0) == true, (!eqb (z 7) 0) == true, (!eqb (z 7) 0) == true, (!eqb (z 7) 0) == true] true := by kernel_rfl
  exact tc8 (φ := [(0, true), (1, true), (2, true), (3, true)]) (nils := []) (by kernel_rfl) (e.trans (by rw [h]; rfl)) ⟨by kernel_rfl, by kernel_rfl, by kernel_rfl, by kernel_rfl, trivial⟩ (by kernel_rfl) ⟨by kernel_rfl, by kernel_rfl, trivial⟩
theorem slD9_3_false_0 (z : Nat → Int) (L : List Int) (h : (!eqb (z 7) 0) = false) : TC Try.prog 68 (sq2 (sq2 in8)) (frL' (fe8 9 (.sl 1 0 L.length 1 true none) 3 0)) 2 (stL (s8' z L)) .normal (frL' (fo8 9 (.sl 1 0 L.length 1 true none) 3)) 2 (stL (s8' z L)) := by
  have e : (oSt (ev8 [(0, false), (1, false), (2, false), (3, false)] [] 2 (sq2 (sq2 in8)) (fe8 9 (.sl 1 0 L.length 1 true none) 3 0) (s8' z L))).ok = okT [(!eqb (z 7) 0) == false, (!eqb (z 7) 0) == false, (!eqb (z 7) 0) == false, (!eqb (z 7) 0) == false] true := by kernel_rfl
  exact tc8 (φ := [(0, false), (1, false), (2, false), (3, false)]) (nils := []) (by kernel_rfl) (e.trans (by rw [h]; rfl)) ⟨by kernel_rfl, by kernel_rfl, by kernel_rfl, by kernel_rfl, trivial⟩ (by kernel_rfl) ⟨by kernel_rfl, by kernel_rfl, trivial⟩
theorem slR9_3 (z : Nat → Int) (L : List Int) (hL : L.length < 65536) (hLe : L = resL z 9) : TC Try.prog 68 o8 (frL' (fo8 9 (.sl 1 0 L.length 1 true none) 3)) 2 (stL (s8' z L)) .normal (frL' (fo8 9 (.sl 1 0 L.length 1 true none) 4)) 2 (stL (s8' z L)) := by
  rw [o8_eq]
  have hr := c9_3 z
  rw [← hLe] at hr
  have hc := hr
  cases hz : eqb (z 7) 0 with
  | false => exact TC.seq (slA3 z 9 L ) (TC.seq (TC.block (TC.seq (slB3 z 9 L ) (TC.seq (slI3 z 9 L hL 0 hc) (slD9_3_true_0 z L (by rw [hz]; rfl)))) (.inl rfl)) (slE3 z 9 L ))
  | true => exact TC.seq (slA3 z 9 L ) (TC.seq (TC.block (TC.seq (slB3 z 9 L ) (TC.seq (slI3 z 9 L hL 0 hc) (slD9_3_false_0 z L (by rw [hz]; rfl)))) (.inl rfl)) (slE3 z 9 L ))
theorem slD9_4_true_1 (z : Nat → Int) (L : List Int) (h : (!eqb (z 9) 0) = true) : TC Try.prog 68 (sq2 (sq2 in8)) (frL' (fe8 9 (.sl 1 0 L.length 1 true none) 4 1)) 2 (stL (s8' z L)) .normal (frL' (fo8 9 (.sl 1 0 L.length 1 true none) 4)) 2 (stL (s8' z L)) := by
  have e : (oSt (ev8 [(0, true), (1, true), (2, true), (3, true)] [] 2 (sq2 (sq2 in8)) (fe8 9 (.sl 1 0 L.length 1 true none) 4 1) (s8' z L))).ok = okT [(!eqb (z 9) 0) == true, (!eqb (z 9) 0) == true, (!eqb (z 9) 0) == true, (!eqb (z 9) 0) == true] true := by kernel_rfl
  exact tc8 (φ := [(0, true), (1, true), (2, true), (3, true)]) (nils := []) (by kernel_rfl) (e.trans (by rw [h]; rfl)) ⟨by kernel_rfl, by kernel_rfl, by kernel_rfl, by kernel_rfl, trivial⟩ (by kernel_rfl) ⟨by kernel_rfl, by kernel_rfl, trivial⟩
theorem slD9_4_false_0 (z : Nat → Int) (L : List Int) (h : (!eqb (z 9) 0) = false) : TC Try.prog 68 (sq2 (sq2 in8)) (frL' (fe8 9 (.sl 1 0 L.length 1 true none) 4 0)) 2 (stL (s8' z L)) .normal (frL' (fo8 9 (.sl 1 0 L.length 1 true none) 4)) 2 (stL (s8' z L)) := by
  have e : (oSt (ev8 [(0, false), (1, false), (2, false), (3, false)] [] 2 (sq2 (sq2 in8)) (fe8 9 (.sl 1 0 L.length 1 true none) 4 0) (s8' z L))).ok = okT [(!eqb (z 9) 0) == false, (!eqb (z 9) 0) == false, (!eqb (z 9) 0) == false, (!eqb (z 9) 0) == false] true := by kernel_rfl
  exact tc8 (φ := [(0, false), (1, false), (2, false), (3, false)]) (nils := []) (by kernel_rfl) (e.trans (by rw [h]; rfl)) ⟨by kernel_rfl, by kernel_rfl, by kernel_rfl, by kernel_rfl, trivial⟩ (by kernel_rfl) ⟨by kernel_rfl, by kernel_rfl, trivial⟩
theorem slD9_4_false_1 (z : Nat → Int) (L : List Int) (h : (!eqb (z 9) 0) = false) : TC Try.prog 68 (sq2 (sq2 in8)) (frL' (fe8 9 (.sl 1 0 L.length 1 true none) 4 1)) 2 (stL (s8' z L)) .normal (frL' (fo8 9 (.sl 1 0 L.length 1 true none) 4)) 2 (stL (s8' z L)) := by
  have e : (oSt (ev8 [(0, false), (1, false), (2, false), (3, false)] [] 2 (sq2 (sq2 in8)) (fe8 9 (.sl 1 0 L.length 1 true none) 4 1) (s8' z L))).ok = okT [(!eqb (z 9) 0) == false, (!eqb (z 9) 0) == false, (!eqb (z 9) 0) == false, (!eqb (z 9) 0) == false] true := by kernel_rfl
  exact tc8 (φ := [(0, false), (1, false), (2, false), (3, false)]) (nils := []) (by kernel_rfl) (e.trans (by rw [h]; rfl)) ⟨by kernel_rfl, by kernel_rfl, by kernel_rfl, by kernel_rfl, trivial⟩ (by kernel_rfl) ⟨by kernel_rfl, by kernel_rfl, trivial⟩
theorem slR9_4 (z : Nat → Int) (L : List Int) (hL : L.length < 65536) (hLe : L = resL z 9) : TC Try.prog 68 o8 (frL' (fo8 9 (.sl 1 0 L.length 1 true none) 4)) 2 (stL (s8' z L)) .normal (frL' (fo8 9 (.sl 1 0 L.length 1 true none) 5)) 2 (stL (s8' z L)) := by
  rw [o8_eq]
  have hr := c9_4 z
  rw [← hLe] at hr
  cases hz : eqb (z 9) 0 with
  | false =>
    have hc := hr.2 hz
    exact TC.seq (slA4 z 9 L ) (TC.seq (TC.block (TC.seq (slB4 z 9 L ) (TC.seq (slI4 z 9 L hL 1 hc) (slD9_4_true_1 z L (by rw [hz]; rfl)))) (.inl rfl)) (slE4 z 9 L ))
  | true =>
    rcases (show ucnt L 4 = 0 ∨ ucnt L 4 = 1 by omega) with hc | hc
    · exact TC.seq (slA4 z 9 L ) (TC.seq (TC.block (TC.seq (slB4 z 9 L ) (TC.seq (slI4 z 9 L hL 0 hc) (slD9_4_false_0 z L (by rw [hz]; rfl)))) (.inl rfl)) (slE4 z 9 L ))
    · exact TC.seq (slA4 z 9 L ) (TC.seq (TC.block (TC.seq (slB4 z 9 L ) (TC.seq (slI4 z 9 L hL 1 hc) (slD9_4_false_1 z L (by rw [hz]; rfl)))) (.inl rfl)) (slE4 z 9 L ))
theorem slD9_5_true_1 (z : Nat → Int) (L : List Int) (h : (!eqb (z 11) 0) = true) : TC Try.prog 68 (sq2 (sq2 in8)) (frL' (fe8 9 (.sl 1 0 L.length 1 true none) 5 1)) 2 (stL (s8' z L)) .normal (frL' (fo8 9 (.sl 1 0 L.length 1 true none) 5)) 2 (stL (s8' z L)) := by
  have e : (oSt (ev8 [(0, true), (1, true), (2, true), (3, true)] [] 2 (sq2 (sq2 in8)) (fe8 9 (.sl 1 0 L.length 1 true none) 5 1) (s8' z L))).ok = okT [(!eqb (z 11) 0) == true, (!eqb (z 11) 0) == true, (!eqb (z 11) 0) == true, (!eqb (z 11) 0) == true] true := by kernel_rfl
  exact tc8 (φ := [(0, true), (1, true), (2, true), (3, true)]) (nils := []) (by kernel_rfl) (e.trans (by rw [h]; rfl)) ⟨by kernel_rfl, by kernel_rfl, by kernel_rfl, by kernel_rfl, trivial⟩ (by kernel_rfl) ⟨by kernel_rfl, by kernel_rfl, trivial⟩
theorem slD9_5_false_0 (z : Nat → Int) (L : List Int) (h : (!eqb (z 11) 0) = false) : TC Try.prog 68 (sq2 (sq2 in8)) (frL' (fe8 9 (.sl 1 0 L.length 1 true none) 5 0)) 2 (stL (s8' z L)) .normal (frL' (fo8 9 (.sl 1 0 L.length 1 true none) 5)) 2 (stL (s8' z L)) := by
  have e : (oSt (ev8 [(0, false), (1, false), (2, false), (3, false)] [] 2 (sq2 (sq2 in8)) (fe8 9 (.sl 1 0 L.length 1 true none) 5 0) (s8' z L))).ok = okT [(!eqb (z 11) 0) == false, (!eqb (z 11) 0) == false, (!eqb (z 11) 0) == false, (!eqb (z 11) 0) == false] true := by kernel_rfl
  exact tc8 (φ := [(0, false), (1, false), (2, false), (3, false)]) (nils := []) (by kernel_rfl) (e.trans (by rw [h]; rfl)) ⟨by kernel_rfl, by kernel_rfl, by kernel_rfl, by kernel_rfl, trivial⟩ (by kernel_rfl) ⟨by kernel_rfl, by kernel_rfl, trivial⟩
theorem slD9_5_false_1 (z : Nat → Int) (L : List Int) (h : (!eqb (z 11) 0) = false) : TC Try.prog 68 (sq2 (sq2 in8)) (frL' (fe8 9 (.sl 1 0 L.length 1 true none) 5 1)) 2 (stL (s8' z L)) .normal (frL' (fo8 9 (.sl 1 0 L.length 1 true none) 5)) 2 (stL (s8' z L)) := by
  have e : (oSt (ev8 [(0, false), (1, false), (2, false), (3, false)] [] 2 (sq2 (sq2 in8)) (fe8 9 (.sl 1 0 L.length 1 true none) 5 1) (s8' z L))).ok = okT [(!eqb (z 11) 0) == false, (!eqb (z 11) 0) == false, (!eqb (z 11) 0) == false, (!eqb (z 11) 0) == false] true := by kernel_rfl
  exact tc8 (φ := [(0, false), (1, false), (2, false), (3, false)]) (nils := []) (by kernel_rfl) (e.trans (by rw [h]; rfl)) ⟨by kernel_rfl, by kernel_rfl, by kernel_rfl, by kernel_rfl, trivial⟩ (by kernel_rfl) ⟨by kernel_rfl, by kernel_rfl, trivial⟩
theorem slR9_5 (z : Nat → Int) (L : List Int) (hL : L.length < 65536) (hLe : L = resL z 9) : TC Try.prog 68 o8 (frL' (fo8 9 (.sl 1 0 L.length 1 true none) 5)) 2 (stL (s8' z L)) .normal (frL' (fo8 9 (.sl 1 0 L.length 1 true none) 6)) 2 (stL (s8' z L)) := by
  rw [o8_eq]
  have hr := c9_5 z
  rw [← hLe] at hr
  cases hz : eqb (z 11) 0 with
  | false =>
    have hc := hr.2 hz
    exact TC.seq (slA5 z 9 L ) (TC.seq (TC.block (TC.seq (slB5 z 9 L ) (TC.seq (slI5 z 9 L hL 1 hc) (slD9_5_true_1 z L (by rw [hz]; rfl)))) (.inl rfl)) (slE5 z 9 L ))
  | true =>
    rcases (show ucnt L 5 = 0 ∨ ucnt L 5 = 1 by omega) with hc | hc
    · exact TC.seq (slA5 z 9 L ) (TC.seq (TC.block (TC.seq (slB5 z 9 L ) (TC.seq (slI5 z 9 L hL 0 hc) (slD9_5_false_0 z L (by rw [hz]; rfl)))) (.inl rfl)) (slE5 z 9 L ))
    · exact TC.seq (slA5 z 9 L ) (TC.seq (TC.block (TC.seq (slB5 z 9 L ) (TC.seq (slI5 z 9 L hL 1 hc) (slD9_5_false_1 z L (by rw [hz]; rfl)))) (.inl rfl)) (slE5 z 9 L ))
theorem slD9_6_true_0 (z : Nat → Int) (L : List Int) (h : (!eqb (z 13) 0) = true) : TC Try.prog 68 (sq2 (sq2 in8)) (frL' (fe8 9 (.sl 1 0 L.length 1 true none) 6 0)) 2 (stL (s8' z L)) .normal (frL' (fo8 9 (.sl 1 0 L.length 1 true none) 6)) 2 (stL (s8' z L)) := by
  have e : (oSt (ev8 [(0, true), (1, true), (2, true), (3, true)] [] 2 (sq2 (sq2 in8)) (fe8 9 (.sl 1 0 L.length 1 true none) 6 0) (s8' z L))).ok = okT [(!eqb (z 13) 0) == true, (!eqb (z 13) 0) == true, (!eqb (z 13) 0) == true, (!eqb (z 13) 0) == true] true := by kernel_rfl
  exact tc8 (φ := [(0, true), (1, true), (2, true), (3, true)]) (nils := []) (by kernel_rfl) (e.trans (by rw [h]; rfl)) ⟨by kernel_rfl, by kernel_rfl, by kernel_rfl, by kernel_rfl, trivial⟩ (by kernel_rfl) ⟨by kernel_rfl, by kernel_rfl, trivial⟩
theorem slD9_6_false_0 (z : Nat → Int) (L : List Int) (h : (!eqb (z 13) 0) = false) : TC Try.prog 68 (sq2 (sq2 in8)) (frL' (fe8 9 (.sl 1 0 L.length 1 true none) 6 0)) 2 (stL (s8' z L)) .normal (frL' (fo8 9 (.sl 1 0 L.length 1 true none) 6)) 2 (stL (s8' z L)) := by
  have e : (oSt (ev8 [(0, false), (1, false), (2, false), (3, false)] [] 2 (sq2 (sq2 in8)) (fe8 9 (.sl 1 0 L.length 1 true none) 6 0) (s8' z L))).ok = okT [(!eqb (z 13) 0) == false, (!eqb (z 13) 0) == false, (!eqb (z 13) 0) == false, (!eqb (z 13) 0) == false] true := by kernel_rfl
  exact tc8 (φ := [(0, false), (1, false), (2, false), (3, false)]) (nils := []) (by kernel_rfl) (e.trans (by rw [h]; rfl)) ⟨by kernel_rfl, by kernel_rfl, by kernel_rfl, by kernel_rfl, trivial⟩ (by kernel_rfl) ⟨by kernel_rfl, by kernel_rfl, trivial⟩
theorem slR9_6 (z : Nat → Int) (L : List Int) (hL : L.length < 65536) (hLe : L = resL z 9) : TC Try.prog 68 o8 (frL' (fo8 9 (.sl 1 0 L.length 1 true none) 6)) 2 (stL (s8' z L)) .normal (frL' (fo8 9 (.sl 1 0 L.length 1 true none) 7)) 2 (stL (s8' z L)) := by
  rw [o8_eq]
  have hr := c9_6 z
  rw [← hLe] at hr
  have hc := hr
  cases hz : eqb (z 13) 0 with
  | false => exact TC.seq (slA6 z 9 L ) (TC.seq (TC.block (TC.seq (slB6 z 9 L ) (TC.seq (slI6 z 9 L hL 0 hc) (slD9_6_true_0 z L (by rw [hz]; rfl)))) (.inl rfl)) (slE6 z 9 L ))
  | true => exact TC.seq (slA6 z 9 L ) (TC.seq (TC.block (TC.seq (slB6 z 9 L ) (TC.seq (slI6 z 9 L hL 0 hc) (slD9_6_false_0 z L (by rw [hz]; rfl)))) (.inl rfl)) (slE6 z 9 L ))
theorem slD9_7_true_0 (z : Nat → Int) (L : List Int) (h : (!eqb (z 15) 0) = true) : TC Try.prog 68 (sq2 (sq2 in8)) (frL' (fe8 9 (.sl 1 0 L.length 1 true none) 7 0)) 2 (stL (s8' z L)) .normal (frL' (fo8 9 (.sl 1 0 L.length 1 true none) 7)) 2 (stL (s8' z L)) := by
  have e : (oSt (ev8 [(0, true), (1, true), (2, true), (3, true)] [] 2 (sq2 (sq2 in8)) (fe8 9 (.sl 1 0 L.length 1 true none) 7 0) (s8' z L))).ok = okT [(!eqb (z 15) 0) == true, (!eqb (z 15) 0) == true, (!eqb (z 15) 0) == true, (!eqb (z 15) 0) == true] true := by kernel_rfl
  exact tc8 (φ := [(0, true), (1, true), (2, true), (3, true)]) (nils := []) (by kernel_rfl) (e.trans (by rw [h]; rfl)) ⟨by kernel_rfl, by kernel_rfl, by kernel_rfl, by kernel_rfl, trivial⟩ (by kernel_rfl) ⟨by kernel_rfl, by kernel_rfl, trivial⟩
theorem slD9_7_false_0 (z : Nat → Int) (L : List Int) (h : (!eqb (z 15) 0) = false) : TC Try.prog 68 (sq2 (sq2 in8)) (frL' (fe8 9 (.sl 1 0 L.length 1 true none) 7 0)) 2 (stL (s8' z L)) .normal (frL' (fo8 9 (.sl 1 0 L.length 1 true none) 7)) 2 (stL (s8' z L)) := by
  have e : (oSt (ev8 [(0, false), (1, false), (2, false), (3, false)] [] 2 (sq2 (sq2 in8)) (fe8 9 (.sl 1 0 L.length 1 true none) 7 0) (s8' z L))).ok = okT [(!eqb (z 15) 0) == false, (!eqb (z 15) 0) == false, (!eqb (z 15) 0) == false, (!eqb (z 15) 0) == false] true := by kernel_rfl
  exact tc8 (φ := [(0, false), (1, false), (2, false), (3, false)]) (nils := []) (by kernel_rfl) (e.trans (by rw [h]; rfl)) ⟨by kernel_rfl, by kernel_rfl, by kernel_rfl, by kernel_rfl, trivial⟩ (by kernel_rfl) ⟨by kernel_rfl, by kernel_rfl, trivial⟩
theorem slR9_7 (z : Nat → Int) (L : List Int) (hL : L.length < 65536) (hLe : L = resL z 9) : TC Try.prog 68 o8 (frL' (fo8 9 (.sl 1 0 L.length 1 true none) 7)) 2 (stL (s8' z L)) .normal (frL' (fo8 9 (.sl 1 0 L.length 1 true none) 8)) 2 (stL (s8' z L)) := by
  rw [o8_eq]
  have hr := c9_7 z
  rw [← hLe] at hr
  have hc := hr
  cases hz : eqb (z 15) 0 with
  | false => exact TC.seq (slA7 z 9 L ) (TC.seq (TC.block (TC.seq (slB7 z 9 L ) (TC.seq (slI7 z 9 L hL 0 hc) (slD9_7_true_0 z L (by rw [hz]; rfl)))) (.inl rfl)) (slE7 z 9 L ))
  | true => exact TC.seq (slA7 z 9 L ) (TC.seq (TC.block (TC.seq (slB7 z 9 L ) (TC.seq (slI7 z 9 L hL 0 hc) (slD9_7_false_0 z L (by rw [hz]; rfl)))) (.inl rfl)) (slE7 z 9 L ))
theorem slW9 (z : Nat → Int) (L : List Int) (hL : L.length < 65536) (hLe : L = resL z 9) : TC Try.prog 68 (.seq (.seq (sq1 (sq1 (sq2 out8))) (.block 0 (.loop o8))) (sq2 (sq2 out8))) (frL' [(1, .sc (.int .i64 9)), (2, .ptr 0 0), (5, (.sl 1 0 L.length 1 true none))]) 2 (stL (s8' z L)) .ret (frL' [(4, .sc (.bool true))]) 2 (stL (s8' z L)) :=
  TC.seq (TC.seq (slS z 9 L ) (TC.block (TC.loop (k := 9) (TR.more (slR9_0 z L hL hLe) (TR.more (slR9_1 z L hL hLe) (TR.more (slR9_2 z L hL hLe) (TR.more (slR9_3 z L hL hLe) (TR.more (slR9_4 z L hL hLe) (TR.more (slR9_5 z L hL hLe) (TR.more (slR9_6 z L hL hLe) (TR.more (slR9_7 z L hL hLe) (TR.out (slX z 9 L ) (by simp))))))))))) (.inr rfl))) (slZ z L )
theorem slD10_0_true_0 (z : Nat → Int) (L : List Int) (h : (!eqb (z 1) 0) = true) : TC Try.prog 68 (sq2 (sq2 in8)) (frL' (fe8 10 (.sl 1 0 L.length 1 true none) 0 0)) 2 (stL (s8' z L)) .normal (frL' (fo8 10 (.sl 1 0 L.length 1 true none) 0)) 2 (stL (s8' z L)) := by
  have e : (oSt (ev8 [(0, true), (1, true), (2, true), (3, true)] [] 2 (sq2 (sq2 in8)) (fe8 10 (.sl 1 0 L.length 1 true none) 0 0) (s8' z L))).ok = okT [(!eqb (z 1) 0) == true, (!eqb (z 1) 0) == true, (!eqb (z 1) 0) == true, (!eqb (z 1) 0) == true] true := by kernel_rfl
  exact tc8 (φ := [(0, true), (1, true), (2, true), (3, true)]) (nils := []) (by kernel_rfl) (e.trans (by rw [h]; rfl)) ⟨by kernel_rfl, by kernel_rfl, by kernel_rfl, by kernel_rfl, trivial⟩ (by kernel_rfl) ⟨by kernel_rfl, by kernel_rfl, trivial⟩
theorem slD10_0_false_0 (z : Nat → Int) (L : List Int) (h : (!eqb (z 1) 0) = false) : TC Try.prog 68 (sq2 (sq2 in8)) (frL' (fe8 10 (.sl 1 0 L.length 1 true none) 0 0)) 2 (stL (s8' z L)) .normal (frL' (fo8 10 (.sl 1 0 L.length 1 true none) 0)) 2 (stL (s8' z L)) := by
  have e : (oSt (ev8 [(0, false), (1, false), (2, false), (3, false)] [] 2 (sq2 (sq2 in8)) (fe8 10 (.sl 1 0 L.length 1 true none) 0 0) (s8' z L))).ok = okT [(!eqb (z 1) 0) == false, (!eqb (z 1) 0) == false, (!eqb (z 1) 0) == false, (!eqb (z 1) 0) == false] true := by kernel_rfl
  exact tc8 (φ := [(0, false), (1, false), (2, false), (3, false)]) (nils := []) (by kernel_rfl) (e.trans (by rw [h]; rfl)) ⟨by kernel_rfl, by kernel_rfl, by kernel_rfl, by kernel_rfl, trivial⟩ (by kernel_rfl) ⟨by kernel_rfl, by kernel_rfl, trivial⟩
theorem slR10_0 (z : Nat → Int) (L : List Int) (hL : L.length < 65536) (hLe : L = resL z 10) : TC Try.prog 68 o8 (frL' (fo8 10 (.sl 1 0 L.length 1 true none) 0)) 2 (stL (s8' z L)) .normal (frL' (fo8 10 (.sl 1 0 L.length 1 true none) 1)) 2 (stL (s8' z L)) := by
  rw [o8_eq]
  have hr := c10_0 z
  rw [← hLe] at hr
  have hc := hr
  cases hz : eqb (z 1) 0 with
  | false => exact TC.seq (slA0 z 10 L ) (TC.seq (TC.block (TC.seq (slB0 z 10 L ) (TC.seq (slI0 z 10 L hL 0 hc) (slD10_0_true_0 z L (by rw [hz]; rfl)))) (.inl rfl)) (slE0 z 10 L ))
  | true => exact TC.seq (slA0 z 10 L ) (TC.seq (TC.block (TC.seq (slB0 z 10 L ) (TC.seq (slI0 z 10 L hL 0 hc) (slD10_0_false_0 z L (by rw [hz]; rfl)))) (.inl rfl)) (slE0 z 10 L ))
theorem slD10_1_true_0 (z : Nat → Int) (L : List Int) (h : (!eqb (z 3) 0) = true) : TC Try.prog 68 (sq2 (sq2 in8)) (frL' (fe8 10 (.sl 1 0 L.length 1 true none) 1 0)) 2 (stL (s8' z L)) .normal (frL' (fo8 10 (.sl 1 0 L.length 1 true none) 1)) 2 (stL (s8' z L)) := by
  have e : (oSt (ev8 [(0, true), (1, true), (2, true), (3, true)] [] 2 (sq2 (sq2 in8)) (fe8 10 (.sl 1 0 L.length 1 true none) 1 0) (s8' z L))).ok = okT [(!eqb (z 3) 0) == true, (!eqb (z 3) 0) == true, (!eqb (z 3) 0) == true, (!eqb (z 3) 0) == true] true := by kernel_rfl
  exact tc8 (φ := [(0, true), (1, true), (2, true), (3, true)]) (nils := []) (by kernel_rfl) (e.trans (by rw [h]; rfl)) ⟨by kernel_rfl, by kernel_rfl, by kernel_rfl, by kernel_rfl, trivial⟩ (by kernel_rfl) ⟨by kernel_rfl, by kernel_rfl, trivial⟩
theorem slD10_1_false_0 (z : Nat → Int) (L : List Int) (h : (!eqb (z 3) 0) = false) : TC Try.prog 68 (sq2 (sq2 in8)) (frL' (fe8 10 (.sl 1 0 L.length 1 true none) 1 0)) 2 (stL (s8' z L)) .normal (frL' (fo8 10 (.sl 1 0 L.length 1 true none) 1)) 2 (stL (s8' z L)) := by
  have e : (oSt (ev8 [(0, false), (1, false), (2, false), (3, false)] [] 2 (sq2 (sq2 in8)) (fe8 10 (.sl 1 0 L.length 1 true none) 1 0) (s8' z L))).ok = okT [(!eqb (z 3) 0) == false, (!eqb (z 3) 0) == false, (!eqb (z 3) 0) == false, (!eqb (z 3) 0) == false] true := by kernel_rfl
  exact tc8 (φ := [(0, false), (1, false), (2, false), (3, false)]) (nils := []) (by kernel_rfl) (e.trans (by rw [h]; rfl)) ⟨by kernel_rfl, by kernel_rfl, by kernel_rfl, by kernel_rfl, trivial⟩ (by kernel_rfl) ⟨by kernel_rfl, by kernel_rfl, trivial⟩
theorem slR10_1 (z : Nat → Int) (L : List Int) (hL : L.length < 65536) (hLe : L = resL z 10) : TC Try.prog 68 o8 (frL' (fo8 10 (.sl 1 0 L.length 1 true none) 1)) 2 (stL (s8' z L)) .normal (frL' (fo8 10 (.sl 1 0 L.length 1 true none) 2)) 2 (stL (s8' z L)) := by
  rw [o8_eq]
  have hr := c10_1 z
  rw [← hLe] at hr
  have hc := hr
  cases hz : eqb (z 3) 0 with
  | false => exact TC.seq (slA1 z 10 L ) (TC.seq (TC.block (TC.seq (slB1 z 10 L ) (TC.seq (slI1 z 10 L hL 0 hc) (slD10_1_true_0 z L (by rw [hz]; rfl)))) (.inl rfl)) (slE1 z 10 L ))
  | true => exact TC.seq (slA1 z 10 L ) (TC.seq (TC.block (TC.seq (slB1 z 10 L ) (TC.seq (slI1 z 10 L hL 0 hc) (slD10_1_false_0 z L (by rw [hz]; rfl)))) (.inl rfl)) (slE1 z 10 L ))
theorem slD10_2_true_0 (z : Nat → Int) (L : List Int) (h : (!eqb (z 5) 0) = true) : TC Try.prog 68 (sq2 (sq2 in8)) (frL' (fe8 10 (.sl 1 0 L.length 1 true none) 2 0)) 2 (stL (s8' z L)) .normal (frL' (fo8 10 (.sl 1 0 L.length 1 true none) 2)) 2 (stL (s8' z L)) := by
  have e : (oSt (ev8 [(0, true), (1, true), (2, true), (3, true)] [] 2 (sq2 (sq2 in8)) (fe8 10 (.sl 1 0 L.length 1 true none) 2 0) (s8' z L))).ok = okT [(!eqb (z 5) 0) == true, (!eqb (z 5) 0) == true, (!eqb (z 5) 0) == true, (!eqb (z 5) 0) == true] true := by kernel_rfl
  exact tc8 (φ := [(0, true), (1, true), (2, true), (3, true)]) (nils := []) (by kernel_rfl) (e.trans (by rw [h]; rfl)) ⟨by kernel_rfl, by kernel_rfl, by kernel_rfl, by kernel_rfl, trivial⟩ (by kernel_rfl) ⟨by kernel_rfl, by kernel_rfl, trivial⟩
theorem slD10_2_false_0 (z : Nat → Int) (L : List Int) (h : (!eqb (z 5) 0) = false) : TC Try.prog 68 (sq2 (sq2 in8)) (frL' (fe8 10 (.sl 1 0 L.length 1 true none) 2 0)) 2 (stL (s8' z L)) .normal (frL' (fo8 10 (.sl 1 0 L.length 1 true none) 2)) 2 (stL (s8' z L)) := by
  have e : (oSt (ev8 [(0, false), (1, false), (2, false), (3, false)] [] 2 (sq2 (sq2 in8)) (fe8 10 (.sl 1 0 L.length 1 true none) 2 0) (s8' z L))).ok = okT [(!eqb (z 5) 0) == false, (!eqb (z 5) 0) == false, (!eqb (z 5) 0) == false, (!eqb (z 5) 0) == false] true := by kernel_rfl
  exact tc8 (φ := [(0, false), (1, false), (2, false), (3, false)]) (nils := []) (by kernel_rfl) (e.trans (by rw [h]; rfl)) ⟨by kernel_rfl, by kernel_rfl, by kernel_rfl, by kernel_rfl, trivial⟩ (by kernel_rfl) ⟨by kernel_rfl, by kernel_rfl, trivial⟩
theorem slR10_2 (z : Nat → Int) (L : List Int) (hL : L.length < 65536) (hLe : L = resL z 10) : TC Try.prog 68 o8 (frL' (fo8 10 (.sl 1 0 L.length 1 true none) 2)) 2 (stL (s8' z L)) .normal (frL' (fo8 10 (.sl 1 0 L.length 1 true none) 3)) 2 (stL (s8' z L)) := by
  rw [o8_eq]
  have hr := c10_2 z
  rw [← hLe] at hr
  have hc := hr
  cases hz : eqb (z 5) 0 with
  | false => exact TC.seq (slA2 z 10 L ) (TC.seq (TC.block (TC.seq (slB2 z 10 L ) (TC.seq (slI2 z 10 L hL 0 hc) (slD10_2_true_0 z L (by rw [hz]; rfl)))) (.inl rfl)) (slE2 z 10 L ))
  | true => exact TC.seq (slA2 z 10 L ) (TC.seq (TC.block (TC.seq (slB2 z 10 L ) (TC.seq (slI2 z 10 L hL 0 hc) (slD10_2_false_0 z L (by rw [hz]; rfl)))) (.inl rfl)) (slE2 z 10 L ))
theorem slD10_3_true_0 (z : Nat → Int) (L : List Int) (h : (!eqb (z 7) 0) = true) : TC Try.prog 68 (sq2 (sq2 in8)) (frL' (fe8 10 (.sl 1 0 L.length 1 true none) 3 0)) 2 (stL (s8' z L)) .normal (frL' (fo8 10 (.sl 1 0 L.length 1 true none) 3)) 2 (stL (s8' z L)) := by
  have e : (oSt (ev8 [(0, true), (1, true), (2, true), (3, true)] [] 2 (sq2 (sq2 in8)) (fe8 10 (.sl 1 0 L.length 1 true none) 3 0) (s8' z L))).ok = okT [(!eqb (z 7) 0) == true, (!eqb (z 7) 0) == true, (!eqb (z 7) 0) == true, (!eqb (z 7) 0) == true] true := by kernel_rfl
  exact tc8 (φ := [(0, true), (1, true), (2, true), (3, true)]) (nils := []) (by kernel_rfl) (e.trans (by rw [h]; rfl)) ⟨by kernel_rfl, by kernel_rfl, by kernel_rfl, by kernel_rfl, trivial⟩ (by kernel_rfl) ⟨by kernel_rfl, by kernel_rfl, trivial⟩
theorem slD10_3_false_0 (z : Nat → Int) (L : List Int) (h : (!eqb (z 7) 0) = false) : TC Try.prog 68 (sq2 (sq2 in8)) (frL' (fe8 10 (.sl 1 0 L.length 1 true none) 3 0)) 2 (stL (s8' z L)) .normal (frL' (fo8 10 (.sl 1 0 L.length 1 true none) 3)) 2 (stL (s8' z L)) := by
  have e : (oSt (ev8 [(0, false), (1, false), (2, false), (3, false)] [] 2 (sq2 (sq2 in8)) (fe8 10 (.sl 1 0 L.length 1 true none) 3 0) (s8' z L))).ok = okT [(!eqb (z 7) 0) == false, (!eqb (z 7) 0) == false, (!eqb (z 7) 0) == false, (!eqb (z 7) 0) == false] true := by kernel_rfl
  exact tc8 (φ := [(0, false), (1, false), (2, false), (3, false)]) (nils := []) (by kernel_rfl) (e.trans (by rw [h]; rfl)) ⟨by kernel_rfl, by kernel_rfl, by kernel_rfl, by kernel_rfl, trivial⟩ (by kernel_rfl) ⟨by kernel_rfl, by kernel_rfl, trivial⟩
end Go.Proofs.Ytnklnboglijcbaa.D
