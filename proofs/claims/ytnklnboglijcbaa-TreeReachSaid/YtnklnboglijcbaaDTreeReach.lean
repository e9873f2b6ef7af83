/- Of any tree by which nodes all below a node are reached. Conditions: none beyond the statement's own. -/
import Derived.Test.YtnklnboglijcbaaDSame
namespace Go.Proofs.Ytnklnboglijcbaa.D
open Go Go.RowKit
set_option maxRecDepth 100000
set_option linter.unusedVariables false
def allN : List Nat := [0, 1, 2, 3, 4, 5, 6, 7, 8, 9, 10, 11, 12, 13, 14]
theorem allN_lt {j : Nat} (h : allN.contains j = true) : j < 15 := by
  simp [allN] at h; omega
noncomputable def cR (nils : List Nat) : CT := orElse (resT 20 allN nils) (orElse (resT 21 allN nils) (orElse (canon sameT) cl0))
theorem cR_ok (nils : List Nat) : CTOk Try.prog (cR nils) :=
  orElse_ok (resT_ok fun j h z => res20 j (allN_lt h) z) (orElse_ok (resT_ok fun j h z => res21 j (allN_lt h) z) (orElse_ok (canon_ok sameT_ok) cl0_ok))
noncomputable def b7 : Code := bodyOf Try.f7
noncomputable def l7 : Code := ofLoop (ofBlock (sq2 (sq1 (sq2 b7))))
theorem b7_eq : b7 = .seq (sq1 b7) (.seq (.seq (sq1 (sq1 (sq2 b7))) (.block 0 (.loop l7))) (sq2 (sq2 b7))) := by kernel_rfl
section
variable (z : Nat → Int) (v : Int)
def s7 : List (Nat × Ob) := [(0, ⟨.any (nums' .i64 31 z), true, 32⟩)]
def fl7 (i : Int) : List (Nat × V) := [(1, .sc (.int .i64 v)), (2, .ptr 0 0), (5, .sc (.int .i64 i))]
noncomputable def ev7 (φ : Way) (nils : List Nat) (n : Nat) (c : Code) (fl : List (Nat × V)) : Option (Out × St) := dcode Try.prog (cR nils) φ noLoops 28 400 c ⟨frL' fl, n, stL (s7 z), 0, true⟩
theorem tc7 {φ : Way} {nils : List Nat} {n n' : Nat} {c : Code} {fl gl : List (Nat × V)} {o : Out} (h : oOut (ev7 z φ nils n c fl) = some o) (hok : (oSt (ev7 z φ nils n c fl)).ok = true) (hf : frHas (oSt (ev7 z φ nils n c fl)).fr gl) (hn : Nat.ble (oSt (ev7 z φ nils n c fl)).n n' = true) (hs : stHas (oSt (ev7 z φ nils n c fl)).σ (s7 z)) :
    TC Try.prog 28 c (frL' fl) n (stL (s7 z)) o (frL' gl) n' (stL (s7 z)) :=
  run_tc hm (cR_ok nils) φ (noLoops_ok _ _ _) 400 fl (s7 z) gl (s7 z) h hok hf (Nat.le_of_ble_eq_true hn) hs
theorem init7 : TC Try.prog 28 (sq1 (sq1 (sq2 b7))) (frL' [(1, .sc (.int .i64 v)), (2, .ptr 0 0)]) 1 (stL (s7 z)) .normal (frL' (fl7 v (-1))) 1 (stL (s7 z)) :=
  tc7 z (φ := []) (nils := []) (by kernel_rfl) (by kernel_rfl) ⟨by kernel_rfl, by kernel_rfl, by kernel_rfl, trivial⟩ (by kernel_rfl) ⟨by kernel_rfl, trivial⟩
theorem out7 : TC Try.prog 28 l7 (frL' (fl7 v 16)) 35 (stL (s7 z)) (.exit 0) (frL' [(1, .sc (.int .i64 v)), (2, .ptr 0 0)]) 35 (stL (s7 z)) :=
  tc7 z (φ := []) (nils := []) (by kernel_rfl) (by kernel_rfl) ⟨by kernel_rfl, by kernel_rfl, trivial⟩ (by kernel_rfl) ⟨by kernel_rfl, trivial⟩
theorem it7_0 : TC Try.prog 28 l7 (frL' (fl7 v (-1))) 1 (stL (s7 z)) .normal (frL' (fl7 v 0)) 3 (stL (s7 z)) :=
  tc7 z (φ := []) (nils := []) (by kernel_rfl) (by kernel_rfl) ⟨by kernel_rfl, by kernel_rfl, by kernel_rfl, trivial⟩ (by kernel_rfl) ⟨by kernel_rfl, trivial⟩
theorem it7_1 : TC Try.prog 28 l7 (frL' (fl7 v 0)) 3 (stL (s7 z)) .normal (frL' (fl7 v 1)) 5 (stL (s7 z)) := by
  have hl : (resL z 0).length ≤ 1 := len0 z
  cases he : emp (resL z 0) with
  | true =>
    have h : (oSt (ev7 z [] [0] 3 l7 (fl7 v 0))).ok = okT [emp (resL z 0), emp (resL z 0)] true := by kernel_rfl
    exact tc7 z (φ := []) (nils := [0]) (by kernel_rfl) (h.trans (by rw [he]; rfl)) ⟨by kernel_rfl, by kernel_rfl, by kernel_rfl, trivial⟩ (by kernel_rfl) ⟨by kernel_rfl, trivial⟩
  | false =>
    have h : (oSt (ev7 z [] [] 3 l7 (fl7 v 0))).ok = okT [!emp (resL z 0), !emp (resL z 0), Nat.beq (resL z 0).length (resL z 0).length && Nat.beq (resL z 0).length (resL z 0).length && eqL (resL z 0) (resL z 0) && Nat.blt (resL z 0).length 4294967296] true := by kernel_rfl
    exact tc7 z (φ := []) (nils := []) (by kernel_rfl) (h.trans (by rw [he, blt_ok (by omega), eqL_ok.2 rfl]; simp [okT])) ⟨by kernel_rfl, by kernel_rfl, by kernel_rfl, trivial⟩ (by kernel_rfl) ⟨by kernel_rfl, trivial⟩
theorem it7_2 : TC Try.prog 28 l7 (frL' (fl7 v 1)) 5 (stL (s7 z)) .normal (frL' (fl7 v 2)) 7 (stL (s7 z)) := by
  have hl : (resL z 1).length ≤ 2 := len1 z
  cases he : emp (resL z 1) with
  | true =>
    have h : (oSt (ev7 z [] [1] 5 l7 (fl7 v 1))).ok = okT [emp (resL z 1), emp (resL z 1)] true := by kernel_rfl
    exact tc7 z (φ := []) (nils := [1]) (by kernel_rfl) (h.trans (by rw [he]; rfl)) ⟨by kernel_rfl, by kernel_rfl, by kernel_rfl, trivial⟩ (by kernel_rfl) ⟨by kernel_rfl, trivial⟩
  | false =>
    have h : (oSt (ev7 z [] [] 5 l7 (fl7 v 1))).ok = okT [!emp (resL z 1), !emp (resL z 1), Nat.beq (resL z 1).length (resL z 1).length && Nat.beq (resL z 1).length (resL z 1).length && eqL (resL z 1) (resL z 1) && Nat.blt (resL z 1).length 4294967296] true := by kernel_rfl
    exact tc7 z (φ := []) (nils := []) (by kernel_rfl) (h.trans (by rw [he, blt_ok (by omega), eqL_ok.2 rfl]; simp [okT])) ⟨by kernel_rfl, by kernel_rfl, by kernel_rfl, trivial⟩ (by kernel_rfl) ⟨by kernel_rfl, trivial⟩
theorem it7_3 : TC Try.prog 28 l7 (frL' (fl7 v 2)) 7 (stL (s7 z)) .normal (frL' (fl7 v 3)) 9 (stL (s7 z)) := by
  have hl : (resL z 2).length ≤ 1 := len2 z
  cases he : emp (resL z 2) with
  | true =>
    have h : (oSt (ev7 z [] [2] 7 l7 (fl7 v 2))).ok = okT [emp (resL z 2), emp (resL z 2)] true := by kernel_rfl
    exact tc7 z (φ := []) (nils := [2]) (by kernel_rfl) (h.trans (by rw [he]; rfl)) ⟨by kernel_rfl, by kernel_rfl, by kernel_rfl, trivial⟩ (by kernel_rfl) ⟨by kernel_rfl, trivial⟩
  | false =>
    have h : (oSt (ev7 z [] [] 7 l7 (fl7 v 2))).ok = okT [!emp (resL z 2), !emp (resL z 2), Nat.beq (resL z 2).length (resL z 2).length && Nat.beq (resL z 2).length (resL z 2).length && eqL (resL z 2) (resL z 2) && Nat.blt (resL z 2).length 4294967296] true := by kernel_rfl
    exact tc7 z (φ := []) (nils := []) (by kernel_rfl) (h.trans (by rw [he, blt_ok (by omega), eqL_ok.2 rfl]; simp [okT])) ⟨by kernel_rfl, by kernel_rfl, by kernel_rfl, trivial⟩ (by kernel_rfl) ⟨by kernel_rfl, trivial⟩
theorem it7_4 : TC Try.prog 28 l7 (frL' (fl7 v 3)) 9 (stL (s7 z)) .normal (frL' (fl7 v 4)) 11 (stL (s7 z)) := by
  have hl : (resL z 3).length ≤ 4 := len3 z
  cases he : emp (resL z 3) with
  | true =>
    have h : (oSt (ev7 z [] [3] 9 l7 (fl7 v 3))).ok = okT [emp (resL z 3), emp (resL z 3)] true := by kernel_rfl
    exact tc7 z (φ := []) (nils := [3]) (by kernel_rfl) (h.trans (by rw [he]; rfl)) ⟨by kernel_rfl, by kernel_rfl, by kernel_rfl, trivial⟩ (by kernel_rfl) ⟨by kernel_rfl, trivial⟩
  | false =>
    have h : (oSt (ev7 z [] [] 9 l7 (fl7 v 3))).ok = okT [!emp (resL z 3), !emp (resL z 3), Nat.beq (resL z 3).length (resL z 3).length && Nat.beq (resL z 3).length (resL z 3).length && eqL (resL z 3) (resL z 3) && Nat.blt (resL z 3).length 4294967296] true := by kernel_rfl
    exact tc7 z (φ := []) (nils := []) (by kernel_rfl) (h.trans (by rw [he, blt_ok (by omega), eqL_ok.2 rfl]; simp [okT])) ⟨by kernel_rfl, by kernel_rfl, by kernel_rfl, trivial⟩ (by kernel_rfl) ⟨by kernel_rfl, trivial⟩
theorem it7_5 : TC Try.prog 28 l7 (frL' (fl7 v 4)) 11 (stL (s7 z)) .normal (frL' (fl7 v 5)) 13 (stL (s7 z)) := by
  have hl : (resL z 4).length ≤ 1 := len4 z
  cases he : emp (resL z 4) with
  | true =>
    have h : (oSt (ev7 z [] [4] 11 l7 (fl7 v 4))).ok = okT [emp (resL z 4), emp (resL z 4)] true := by kernel_rfl
    exact tc7 z (φ := []) (nils := [4]) (by kernel_rfl) (h.trans (by rw [he]; rfl)) ⟨by kernel_rfl, by kernel_rfl, by kernel_rfl, trivial⟩ (by kernel_rfl) ⟨by kernel_rfl, trivial⟩
  | false =>
    have h : (oSt (ev7 z [] [] 11 l7 (fl7 v 4))).ok = okT [!emp (resL z 4), !emp (resL z 4), Nat.beq (resL z 4).length (resL z 4).length && Nat.beq (resL z 4).length (resL z 4).length && eqL (resL z 4) (resL z 4) && Nat.blt (resL z 4).length 4294967296] true := by kernel_rfl
    exact tc7 z (φ := []) (nils := []) (by kernel_rfl) (h.trans (by rw [he, blt_ok (by omega), eqL_ok.2 rfl]; simp [okT])) ⟨by kernel_rfl, by kernel_rfl, by kernel_rfl, trivial⟩ (by kernel_rfl) ⟨by kernel_rfl, trivial⟩
theorem it7_6 : TC Try.prog 28 l7 (frL' (fl7 v 5)) 13 (stL (s7 z)) .normal (frL' (fl7 v 6)) 15 (stL (s7 z)) := by
  have hl : (resL z 5).length ≤ 2 := len5 z
  cases he : emp (resL z 5) with
  | true =>
    have h : (oSt (ev7 z [] [5] 13 l7 (fl7 v 5))).ok = okT [emp (resL z 5), emp (resL z 5)] true := by kernel_rfl
    exact tc7 z (φ := []) (nils := [5]) (by kernel_rfl) (h.trans (by rw [he]; rfl)) ⟨by kernel_rfl, by kernel_rfl, by kernel_rfl, trivial⟩ (by kernel_rfl) ⟨by kernel_rfl, trivial⟩
  | false =>
    have h : (oSt (ev7 z [] [] 13 l7 (fl7 v 5))).ok = okT [!emp (resL z 5), !emp (resL z 5), Nat.beq (resL z 5).length (resL z 5).length && Nat.beq (resL z 5).length (resL z 5).length && eqL (resL z 5) (resL z 5) && Nat.blt (resL z 5).length 4294967296] true := by kernel_rfl
    exact tc7 z (φ := []) (nils := []) (by kernel_rfl) (h.trans (by rw [he, blt_ok (by omega), eqL_ok.2 rfl]; simp [okT])) ⟨by kernel_rfl, by kernel_rfl, by kernel_rfl, trivial⟩ (by kernel_rfl) ⟨by kernel_rfl, trivial⟩
theorem it7_7 : TC Try.prog 28 l7 (frL' (fl7 v 6)) 15 (stL (s7 z)) .normal (frL' (fl7 v 7)) 17 (stL (s7 z)) := by
  have hl : (resL z 6).length ≤ 1 := len6 z
  cases he : emp (resL z 6) with
  | true =>
    have h : (oSt (ev7 z [] [6] 15 l7 (fl7 v 6))).ok = okT [emp (resL z 6), emp (resL z 6)] true := by kernel_rfl
    exact tc7 z (φ := []) (nils := [6]) (by kernel_rfl) (h.trans (by rw [he]; rfl)) ⟨by kernel_rfl, by kernel_rfl, by kernel_rfl, trivial⟩ (by kernel_rfl) ⟨by kernel_rfl, trivial⟩
  | false =>
    have h : (oSt (ev7 z [] [] 15 l7 (fl7 v 6))).ok = okT [!emp (resL z 6), !emp (resL z 6), Nat.beq (resL z 6).length (resL z 6).length && Nat.beq (resL z 6).length (resL z 6).length && eqL (resL z 6) (resL z 6) && Nat.blt (resL z 6).length 4294967296] true := by kernel_rfl
    exact tc7 z (φ := []) (nils := []) (by kernel_rfl) (h.trans (by rw [he, blt_ok (by omega), eqL_ok.2 rfl]; simp [okT])) ⟨by kernel_rfl, by kernel_rfl, by kernel_rfl, trivial⟩ (by kernel_rfl) ⟨by kernel_rfl, trivial⟩
theorem it7_8 : TC Try.prog 28 l7 (frL' (fl7 v 7)) 17 (stL (s7 z)) .normal (frL' (fl7 v 8)) 19 (stL (s7 z)) := by
  have hl : (resL z 7).length ≤ 8 := len7 z
  cases he : emp (resL z 7) with
  | true =>
    have h : (oSt (ev7 z [] [7] 17 l7 (fl7 v 7))).ok = okT [emp (resL z 7), emp (resL z 7)] true := by kernel_rfl
    exact tc7 z (φ := []) (nils := [7]) (by kernel_rfl) (h.trans (by rw [he]; rfl)) ⟨by kernel_rfl, by kernel_rfl, by kernel_rfl, trivial⟩ (by kernel_rfl) ⟨by kernel_rfl, trivial⟩
  | false =>
    have h : (oSt (ev7 z [] [] 17 l7 (fl7 v 7))).ok = okT [!emp (resL z 7), !emp (resL z 7), Nat.beq (resL z 7).length (resL z 7).length && Nat.beq (resL z 7).length (resL z 7).length && eqL (resL z 7) (resL z 7) && Nat.blt (resL z 7).length 4294967296] true := by kernel_rfl
    exact tc7 z (φ := []) (nils := []) (by kernel_rfl) (h.trans (by rw [he, blt_ok (by omega), eqL_ok.2 rfl]; simp [okT])) ⟨by kernel_rfl, by kernel_rfl, by kernel_rfl, trivial⟩ (by kernel_rfl) ⟨by kernel_rfl, trivial⟩
theorem it7_9 : TC Try.prog 28 l7 (frL' (fl7 v 8)) 19 (stL (s7 z)) .normal (frL' (fl7 v 9)) 21 (stL (s7 z)) := by
  have hl : (resL z 8).length ≤ 1 := len8 z
  cases he : emp (resL z 8) with
  | true =>
    have h : (oSt (ev7 z [] [8] 19 l7 (fl7 v 8))).ok = okT [emp (resL z 8), emp (resL z 8)] true := by kernel_rfl
    exact tc7 z (φ := []) (nils := [8]) (by kernel_rfl) (h.trans (by rw [he]; rfl)) ⟨by kernel_rfl, by kernel_rfl, by kernel_rfl, trivial⟩ (by kernel_rfl) ⟨by kernel_rfl, trivial⟩
  | false =>
    have h : (oSt (ev7 z [] [] 19 l7 (fl7 v 8))).ok = okT [!emp (resL z 8), !emp (resL z 8), Nat.beq (resL z 8).length (resL z 8).length && Nat.beq (resL z 8).length (resL z 8).length && eqL (resL z 8) (resL z 8) && Nat.blt (resL z 8).length 4294967296] true := by kernel_rfl
    exact tc7 z (φ := []) (nils := []) (by kernel_rfl) (h.trans (by rw [he, blt_ok (by omega), eqL_ok.2 rfl]; simp [okT])) ⟨by kernel_rfl, by kernel_rfl, by kernel_rfl, trivial⟩ (by kernel_rfl) ⟨by kernel_rfl, trivial⟩
theorem it7_10 : TC Try.prog 28 l7 (frL' (fl7 v 9)) 21 (stL (s7 z)) .normal (frL' (fl7 v 10)) 23 (stL (s7 z)) := by
  have hl : (resL z 9).length ≤ 2 := len9 z
  cases he : emp (resL z 9) with
  | true =>
    have h : (oSt (ev7 z [] [9] 21 l7 (fl7 v 9))).ok = okT [emp (resL z 9), emp (resL z 9)] true := by kernel_rfl
    exact tc7 z (φ := []) (nils := [9]) (by kernel_rfl) (h.trans (by rw [he]; rfl)) ⟨by kernel_rfl, by kernel_rfl, by kernel_rfl, trivial⟩ (by kernel_rfl) ⟨by kernel_rfl, trivial⟩
  | false =>
    have h : (oSt (ev7 z [] [] 21 l7 (fl7 v 9))).ok = okT [!emp (resL z 9), !emp (resL z 9), Nat.beq (resL z 9).length (resL z 9).length && Nat.beq (resL z 9).length (resL z 9).length && eqL (resL z 9) (resL z 9) && Nat.blt (resL z 9).length 4294967296] true := by kernel_rfl
    exact tc7 z (φ := []) (nils := []) (by kernel_rfl) (h.trans (by rw [he, blt_ok (by omega), eqL_ok.2 rfl]; simp [okT])) ⟨by kernel_rfl, by kernel_rfl, by kernel_rfl, trivial⟩ (by kernel_rfl) ⟨by kernel_rfl, trivial⟩
theorem it7_11 : TC Try.prog 28 l7 (frL' (fl7 v 10)) 23 (stL (s7 z)) .normal (frL' (fl7 v 11)) 25 (stL (s7 z)) := by
  have hl : (resL z 10).length ≤ 1 := len10 z
  cases he : emp (resL z 10) with
  | true =>
    have h : (oSt (ev7 z [] [10] 23 l7 (fl7 v 10))).ok = okT [emp (resL z 10), emp (resL z 10)] true := by kernel_rfl
    exact tc7 z (φ := []) (nils := [10]) (by kernel_rfl) (h.trans (by rw [he]; rfl)) ⟨by kernel_rfl, by kernel_rfl, by kernel_rfl, trivial⟩ (by kernel_rfl) ⟨by kernel_rfl, trivial⟩
  | false =>
    have h : (oSt (ev7 z [] [] 23 l7 (fl7 v 10))).ok = okT [!emp (resL z 10), !emp (resL z 10), Nat.beq (resL z 10).length (resL z 10).length && Nat.beq (resL z 10).length (resL z 10).length && eqL (resL z 10) (resL z 10) && Nat.blt (resL z 10).length 4294967296] true := by kernel_rfl
    exact tc7 z (φ := []) (nils := []) (by kernel_rfl) (h.trans (by rw [he, blt_ok (by omega), eqL_ok.2 rfl]; simp [okT])) ⟨by kernel_rfl, by kernel_rfl, by kernel_rfl, trivial⟩ (by kernel_rfl) ⟨by kernel_rfl, trivial⟩
theorem it7_12 : TC Try.prog 28 l7 (frL' (fl7 v 11)) 25 (stL (s7 z)) .normal (frL' (fl7 v 12)) 27 (stL (s7 z)) := by
  have hl : (resL z 11).length ≤ 4 := len11 z
  cases he : emp (resL z 11) with
  | true =>
    have h : (oSt (ev7 z [] [11] 25 l7 (fl7 v 11))).ok = okT [emp (resL z 11), emp (resL z 11)] true := by kernel_rfl
    exact tc7 z (φ := []) (nils := [11]) (by kernel_rfl) (h.trans (by rw [he]; rfl)) ⟨by kernel_rfl, by kernel_rfl, by kernel_rfl, trivial⟩ (by kernel_rfl) ⟨by kernel_rfl, trivial⟩
  | false =>
    have h : (oSt (ev7 z [] [] 25 l7 (fl7 v 11))).ok = okT [!emp (resL z 11), !emp (resL z 11), Nat.beq (resL z 11).length (resL z 11).length && Nat.beq (resL z 11).length (resL z 11).length && eqL (resL z 11) (resL z 11) && Nat.blt (resL z 11).length 4294967296] true := by kernel_rfl
    exact tc7 z (φ := []) (nils := []) (by kernel_rfl) (h.trans (by rw [he, blt_ok (by omega), eqL_ok.2 rfl]; simp [okT])) ⟨by kernel_rfl, by kernel_rfl, by kernel_rfl, trivial⟩ (by kernel_rfl) ⟨by kernel_rfl, trivial⟩
theorem it7_13 : TC Try.prog 28 l7 (frL' (fl7 v 12)) 27 (stL (s7 z)) .normal (frL' (fl7 v 13)) 29 (stL (s7 z)) := by
  have hl : (resL z 12).length ≤ 1 := len12 z
  cases he : emp (resL z 12) with
  | true =>
    have h : (oSt (ev7 z [] [12] 27 l7 (fl7 v 12))).ok = okT [emp (resL z 12), emp (resL z 12)] true := by kernel_rfl
    exact tc7 z (φ := []) (nils := [12]) (by kernel_rfl) (h.trans (by rw [he]; rfl)) ⟨by kernel_rfl, by kernel_rfl, by kernel_rfl, trivial⟩ (by kernel_rfl) ⟨by kernel_rfl, trivial⟩
  | false =>
    have h : (oSt (ev7 z [] [] 27 l7 (fl7 v 12))).ok = okT [!emp (resL z 12), !emp (resL z 12), Nat.beq (resL z 12).length (resL z 12).length && Nat.beq (resL z 12).length (resL z 12).length && eqL (resL z 12) (resL z 12) && Nat.blt (resL z 12).length 4294967296] true := by kernel_rfl
    exact tc7 z (φ := []) (nils := []) (by kernel_rfl) (h.trans (by rw [he, blt_ok (by omega), eqL_ok.2 rfl]; simp [okT])) ⟨by kernel_rfl, by kernel_rfl, by kernel_rfl, trivial⟩ (by kernel_rfl) ⟨by kernel_rfl, trivial⟩
theorem it7_14 : TC Try.prog 28 l7 (frL' (fl7 v 13)) 29 (stL (s7 z)) .normal (frL' (fl7 v 14)) 31 (stL (s7 z)) := by
  have hl : (resL z 13).length ≤ 2 := len13 z
  cases he : emp (resL z 13) with
  | true =>
    have h : (oSt (ev7 z [] [13] 29 l7 (fl7 v 13))).ok = okT [emp (resL z 13), emp (resL z 13)] true := by kernel_rfl
    exact tc7 z (φ := []) (nils := [13]) (by kernel_rfl) (h.trans (by rw [he]; rfl)) ⟨by kernel_rfl, by kernel_rfl, by kernel_rfl, trivial⟩ (by kernel_rfl) ⟨by kernel_rfl, trivial⟩
  | false =>
    have h : (oSt (ev7 z [] [] 29 l7 (fl7 v 13))).ok = okT [!emp (resL z 13), !emp (resL z 13), Nat.beq (resL z 13).length (resL z 13).length && Nat.beq (resL z 13).length (resL z 13).length && eqL (resL z 13) (resL z 13) && Nat.blt (resL z 13).length 4294967296] true := by kernel_rfl
    exact tc7 z (φ := []) (nils := []) (by kernel_rfl) (h.trans (by rw [he, blt_ok (by omega), eqL_ok.2 rfl]; simp [okT])) ⟨by kernel_rfl, by kernel_rfl, by kernel_rfl, trivial⟩ (by kernel_rfl) ⟨by kernel_rfl, trivial⟩
theorem it7_15 : TC Try.prog 28 l7 (frL' (fl7 v 14)) 31 (stL (s7 z)) .normal (frL' (fl7 v 15)) 33 (stL (s7 z)) := by
  have hl : (resL z 14).length ≤ 1 := len14 z
  cases he : emp (resL z 14) with
  | true =>
    have h : (oSt (ev7 z [] [14] 31 l7 (fl7 v 14))).ok = okT [emp (resL z 14), emp (resL z 14)] true := by kernel_rfl
    exact tc7 z (φ := []) (nils := [14]) (by kernel_rfl) (h.trans (by rw [he]; rfl)) ⟨by kernel_rfl, by kernel_rfl, by kernel_rfl, trivial⟩ (by kernel_rfl) ⟨by kernel_rfl, trivial⟩
  | false =>
    have h : (oSt (ev7 z [] [] 31 l7 (fl7 v 14))).ok = okT [!emp (resL z 14), !emp (resL z 14), Nat.beq (resL z 14).length (resL z 14).length && Nat.beq (resL z 14).length (resL z 14).length && eqL (resL z 14) (resL z 14) && Nat.blt (resL z 14).length 4294967296] true := by kernel_rfl
    exact tc7 z (φ := []) (nils := []) (by kernel_rfl) (h.trans (by rw [he, blt_ok (by omega), eqL_ok.2 rfl]; simp [okT])) ⟨by kernel_rfl, by kernel_rfl, by kernel_rfl, trivial⟩ (by kernel_rfl) ⟨by kernel_rfl, trivial⟩
theorem it7_16 : TC Try.prog 28 l7 (frL' (fl7 v 15)) 33 (stL (s7 z)) .normal (frL' (fl7 v 16)) 35 (stL (s7 z)) :=
  tc7 z (φ := []) (nils := []) (by kernel_rfl) (by kernel_rfl) ⟨by kernel_rfl, by kernel_rfl, by kernel_rfl, trivial⟩ (by kernel_rfl) ⟨by kernel_rfl, trivial⟩
theorem loop7 : TR Try.prog 28 l7 18 (frL' (fl7 v (-1))) 1 (stL (s7 z)) (.exit 0) (frL' [(1, .sc (.int .i64 v)), (2, .ptr 0 0)]) 35 (stL (s7 z)) :=
  TR.more (it7_0 z v) (TR.more (it7_1 z v) (TR.more (it7_2 z v) (TR.more (it7_3 z v) (TR.more (it7_4 z v) (TR.more (it7_5 z v) (TR.more (it7_6 z v) (TR.more (it7_7 z v) (TR.more (it7_8 z v) (TR.more (it7_9 z v) (TR.more (it7_10 z v) (TR.more (it7_11 z v) (TR.more (it7_12 z v) (TR.more (it7_13 z v) (TR.more (it7_14 z v) (TR.more (it7_15 z v) (TR.more (it7_16 z v) (TR.out (out7 z v) (by simp))))))))))))))))))
theorem end7_low (m : Nat) : TC Try.prog 28 (sq2 (sq2 b7)) (frL' [(1, .sc (.int .i64 (Int.negSucc m))), (2, .ptr 0 0)]) 35 (stL (s7 z)) .ret (frL' [(4, .sc (.bool true))]) 37 (stL (s7 z)) :=
  tc7 z (φ := []) (nils := []) (by kernel_rfl) (by kernel_rfl) ⟨by kernel_rfl, trivial⟩ (by kernel_rfl) ⟨by kernel_rfl, trivial⟩
theorem end7_high (m : Nat) : TC Try.prog 28 (sq2 (sq2 b7)) (frL' [(1, .sc (.int .i64 (Int.ofNat (m + 15)))), (2, .ptr 0 0)]) 35 (stL (s7 z)) .ret (frL' [(4, .sc (.bool true))]) 37 (stL (s7 z)) :=
  tc7 z (φ := []) (nils := []) (by kernel_rfl) (by kernel_rfl) ⟨by kernel_rfl, trivial⟩ (by kernel_rfl) ⟨by kernel_rfl, trivial⟩
theorem end7_0 : TC Try.prog 28 (sq2 (sq2 b7)) (frL' [(1, .sc (.int .i64 0)), (2, .ptr 0 0)]) 35 (stL (s7 z)) .ret (frL' [(4, .sc (.bool true))]) 37 (stL (s7 z)) := by
  have hl : (resL z 0).length ≤ 1 := len0 z
  cases he : emp (resL z 0) with
  | true =>
    have h : (oSt (ev7 z [] [0] 35 (sq2 (sq2 b7)) [(1, .sc (.int .i64 0)), (2, .ptr 0 0)])).ok = okT [emp (resL z 0), emp (resL z 0)] true := by kernel_rfl
    exact tc7 z (φ := []) (nils := [0]) (by kernel_rfl) (h.trans (by rw [he]; rfl)) ⟨by kernel_rfl, trivial⟩ (by kernel_rfl) ⟨by kernel_rfl, trivial⟩
  | false =>
    have h : (oSt (ev7 z [] [] 35 (sq2 (sq2 b7)) [(1, .sc (.int .i64 0)), (2, .ptr 0 0)])).ok = okT [!emp (resL z 0), !emp (resL z 0), Nat.beq (resL z 0).length (resL z 0).length && Nat.beq (resL z 0).length (resL z 0).length && eqL (resL z 0) (resL z 0) && Nat.blt (resL z 0).length 4294967296] true := by kernel_rfl
    exact tc7 z (φ := []) (nils := []) (by kernel_rfl) (h.trans (by rw [he, blt_ok (by omega), eqL_ok.2 rfl]; simp [okT])) ⟨by kernel_rfl, trivial⟩ (by kernel_rfl) ⟨by kernel_rfl, trivial⟩
theorem end7_1 : TC Try.prog 28 (sq2 (sq2 b7)) (frL' [(1, .sc (.int .i64 1)), (2, .ptr 0 0)]) 35 (stL (s7 z)) .ret (frL' [(4, .sc (.bool true))]) 37 (stL (s7 z)) := by
  have hl : (resL z 1).length ≤ 2 := len1 z
  cases he : emp (resL z 1) with
  | true =>
    have h : (oSt (ev7 z [] [1] 35 (sq2 (sq2 b7)) [(1, .sc (.int .i64 1)), (2, .ptr 0 0)])).ok = okT [emp (resL z 1), emp (resL z 1)] true := by kernel_rfl
    exact tc7 z (φ := []) (nils := [1]) (by kernel_rfl) (h.trans (by rw [he]; rfl)) ⟨by kernel_rfl, trivial⟩ (by kernel_rfl) ⟨by kernel_rfl, trivial⟩
  | false =>
    have h : (oSt (ev7 z [] [] 35 (sq2 (sq2 b7)) [(1, .sc (.int .i64 1)), (2, .ptr 0 0)])).ok = okT [!emp (resL z 1), !emp (resL z 1), Nat.beq (resL z 1).length (resL z 1).length && Nat.beq (resL z 1).length (resL z 1).length && eqL (resL z 1) (resL z 1) && Nat.blt (resL z 1).length 4294967296] true := by kernel_rfl
    exact tc7 z (φ := []) (nils := []) (by kernel_rfl) (h.trans (by rw [he, blt_ok (by omega), eqL_ok.2 rfl]; simp [okT])) ⟨by kernel_rfl, trivial⟩ (by kernel_rfl) ⟨by kernel_rfl, trivial⟩
theorem end7_2 : TC Try.prog 28 (sq2 (sq2 b7)) (frL' [(1, .sc (.int .i64 2)), (2, .ptr 0 0)]) 35 (stL (s7 z)) .ret (frL' [(4, .sc (.bool true))]) 37 (stL (s7 z)) := by
  have hl : (resL z 2).length ≤ 1 := len2 z
  cases he : emp (resL z 2) with
  | true =>
    have h : (oSt (ev7 z [] [2] 35 (sq2 (sq2 b7)) [(1, .sc (.int .i64 2)), (2, .ptr 0 0)])).ok = okT [emp (resL z 2), emp (resL z 2)] true := by kernel_rfl
    exact tc7 z (φ := []) (nils := [2]) (by kernel_rfl) (h.trans (by rw [he]; rfl)) ⟨by kernel_rfl, trivial⟩ (by kernel_rfl) ⟨by kernel_rfl, trivial⟩
  | false =>
    have h : (oSt (ev7 z [] [] 35 (sq2 (sq2 b7)) [(1, .sc (.int .i64 2)), (2, .ptr 0 0)])).ok = okT [!emp (resL z 2), !emp (resL z 2), Nat.beq (resL z 2).length (resL z 2).length && Nat.beq (resL z 2).length (resL z 2).length && eqL (resL z 2) (resL z 2) && Nat.blt (resL z 2).length 4294967296] true := by kernel_rfl
    exact tc7 z (φ := []) (nils := []) (by kernel_rfl) (h.trans (by rw [he, blt_ok (by omega), eqL_ok.2 rfl]; simp [okT])) ⟨by kernel_rfl, trivial⟩ (by kernel_rfl) ⟨by kernel_rfl, trivial⟩
theorem end7_3 : TC Try.prog 28 (sq2 (sq2 b7)) (frL' [(1, .sc (.int .i64 3)), (2, .ptr 0 0)]) 35 (stL (s7 z)) .ret (frL' [(4, .sc (.bool true))]) 37 (stL (s7 z)) := by
  have hl : (resL z 3).length ≤ 4 := len3 z
  cases he : emp (resL z 3) with
  | true =>
    have h : (oSt (ev7 z [] [3] 35 (sq2 (sq2 b7)) [(1, .sc (.int .i64 3)), (2, .ptr 0 0)])).ok = okT [emp (resL z 3), emp (resL z 3)] true := by kernel_rfl
    exact tc7 z (φ := []) (nils := [3]) (by kernel_rfl) (h.trans (by rw [he]; rfl)) ⟨by kernel_rfl, trivial⟩ (by kernel_rfl) ⟨by kernel_rfl, trivial⟩
  | false =>
    have h : (oSt (ev7 z [] [] 35 (sq2 (sq2 b7)) [(1, .sc (.int .i64 3)), (2, .ptr 0 0)])).ok = okT [!emp (resL z 3), !emp (resL z 3), Nat.beq (resL z 3).length (resL z 3).length && Nat.beq (resL z 3).length (resL z 3).length && eqL (resL z 3) (resL z 3) && Nat.blt (resL z 3).length 4294967296] true := by kernel_rfl
    exact tc7 z (φ := []) (nils := []) (by kernel_rfl) (h.trans (by rw [he, blt_ok (by omega), eqL_ok.2 rfl]; simp [okT])) ⟨by kernel_rfl, trivial⟩ (by kernel_rfl) ⟨by kernel_rfl, trivial⟩
theorem end7_4 : TC Try.prog 28 (sq2 (sq2 b7)) (frL' [(1, .sc (.int .i64 4)), (2, .ptr 0 0)]) 35 (stL (s7 z)) .ret (frL' [(4, .sc (.bool true))]) 37 (stL (s7 z)) := by
  have hl : (resL z 4).length ≤ 1 := len4 z
  cases he : emp (resL z 4) with
  | true =>
    have h : (oSt (ev7 z [] [4] 35 (sq2 (sq2 b7)) [(1, .sc (.int .i64 4)), (2, .ptr 0 0)])).ok = okT [emp (resL z 4), emp (resL z 4)] true := by kernel_rfl
    exact tc7 z (φ := []) (nils := [4]) (by kernel_rfl) (h.trans (by rw [he]; rfl)) ⟨by kernel_rfl, trivial⟩ (by kernel_rfl) ⟨by kernel_rfl, trivial⟩
  | false =>
    have h : (oSt (ev7 z [] [] 35 (sq2 (sq2 b7)) [(1, .sc (.int .i64 4)), (2, .ptr 0 0)])).ok = okT [!emp (resL z 4), !emp (resL z 4), Nat.beq (resL z 4).length (resL z 4).length && Nat.beq (resL z 4).length (resL z 4).length && eqL (resL z 4) (resL z 4) && Nat.blt (resL z 4).length 4294967296] true := by kernel_rfl
    exact tc7 z (φ := []) (nils := []) (by kernel_rfl) (h.trans (by rw [he, blt_ok (by omega), eqL_ok.2 rfl]; simp [okT])) ⟨by kernel_rfl, trivial⟩ (by kernel_rfl) ⟨by kernel_rfl, trivial⟩
theorem end7_5 : TC Try.prog 28 (sq2 (sq2 b7)) (frL' [(1, .sc (.int .i64 5)), (2, .ptr 0 0)]) 35 (stL (s7 z)) .ret (frL' [(4, .sc (.bool true))]) 37 (stL (s7 z)) := by
  have hl : (resL z 5).length ≤ 2 := len5 z
  cases he : emp (resL z 5) with
  | true =>
    have h : (oSt (ev7 z [] [5] 35 (sq2 (sq2 b7)) [(1, .sc (.int .i64 5)), (2, .ptr 0 0)])).ok = okT [emp (resL z 5), emp (resL z 5)] true := by kernel_rfl
    exact tc7 z (φ := []) (nils := [5]) (by kernel_rfl) (h.trans (by rw [he]; rfl)) ⟨by kernel_rfl, trivial⟩ (by kernel_rfl) ⟨by kernel_rfl, trivial⟩
  | false =>
    have h : (oSt (ev7 z [] [] 35 (sq2 (sq2 b7)) [(1, .sc (.int .i64 5)), (2, .ptr 0 0)])).ok = okT [!emp (resL z 5), !emp (resL z 5), Nat.beq (resL z 5).length (resL z 5).length && Nat.beq (resL z 5).length (resL z 5).length && eqL (resL z 5) (resL z 5) && Nat.blt (resL z 5).length 4294967296] true := by kernel_rfl
    exact tc7 z (φ := []) (nils := []) (by kernel_rfl) (h.trans (by rw [he, blt_ok (by omega), eqL_ok.2 rfl]; simp [okT])) ⟨by kernel_rfl, trivial⟩ (by kernel_rfl) ⟨by kernel_rfl, trivial⟩
theorem end7_6 : TC Try.prog 28 (sq2 (sq2 b7)) (frL' [(1, .sc (.int .i64 6)), (2, .ptr 0 0)]) 35 (stL (s7 z)) .ret (frL' [(4, .sc (.bool true))]) 37 (stL (s7 z)) := by
  have hl : (resL z 6).length ≤ 1 := len6 z
  cases he : emp (resL z 6) with
  | true =>
    have h : (oSt (ev7 z [] [6] 35 (sq2 (sq2 b7)) [(1, .sc (.int .i64 6)), (2, .ptr 0 0)])).ok = okT [emp (resL z 6), emp (resL z 6)] true := by kernel_rfl
    exact tc7 z (φ := []) (nils := [6]) (by kernel_rfl) (h.trans (by rw [he]; rfl)) ⟨by kernel_rfl, trivial⟩ (by kernel_rfl) ⟨by kernel_rfl, trivial⟩
  | false =>
    have h : (oSt (ev7 z [] [] 35 (sq2 (sq2 b7)) [(1, .sc (.int .i64 6)), (2, .ptr 0 0)])).ok = okT [!emp (resL z 6), !emp (resL z 6), Nat.beq (resL z 6).length (resL z 6).length && Nat.beq (resL z 6).length (resL z 6).length && eqL (resL z 6) (resL z 6) && Nat.blt (resL z 6).length 4294967296] true := by kernel_rfl
    exact tc7 z (φ := []) (nils := []) (by kernel_rfl) (h.trans (by rw [he, blt_ok (by omega), eqL_ok.2 rfl]; simp [okT])) ⟨by kernel_rfl, trivial⟩ (by kernel_rfl) ⟨by kernel_rfl, trivial⟩
theorem end7_7 : TC Try.prog 28 (sq2 (sq2 b7)) (frL' [(1, .sc (.int .i64 7)), (2, .ptr 0 0)]) 35 (stL (s7 z)) .ret (frL' [(4, .sc (.bool true))]) 37 (stL (s7 z)) := by
  have hl : (resL z 7).length ≤ 8 := len7 z
  cases he : emp (resL z 7) with
  | true =>
    have h : (oSt (ev7 z [] [7] 35 (sq2 (sq2 b7)) [(1, .sc (.int .i64 7)), (2, .ptr 0 0)])).ok = okT [emp (resL z 7), emp (resL z 7)] true := by kernel_rfl
    exact tc7 z (φ := []) (nils := [7]) (by kernel_rfl) (h.trans (by rw [he]; rfl)) ⟨by kernel_rfl, trivial⟩ (by kernel_rfl) ⟨by kernel_rfl, trivial⟩
  | false =>
    have h : (oSt (ev7 z [] [] 35 (sq2 (sq2 b7)) [(1, .sc (.int .i64 7)), (2, .ptr 0 0)])).ok = okT [!emp (resL z 7), !emp (resL z 7), Nat.beq (resL z 7).length (resL z 7).length && Nat.beq (resL z 7).length (resL z 7).length && eqL (resL z 7) (resL z 7) && Nat.blt (resL z 7).length 4294967296] true := by kernel_rfl
    exact tc7 z (φ := []) (nils := []) (by kernel_rfl) (h.trans (by rw [he, blt_ok (by omega), eqL_ok.2 rfl]; simp [okT])) ⟨by kernel_rfl, trivial⟩ (by kernel_rfl) ⟨by kernel_rfl, trivial⟩
theorem end7_8 : TC Try.prog 28 (sq2 (sq2 b7)) (frL' [(1, .sc (.int .i64 8)), (2, .ptr 0 0)]) 35 (stL (s7 z)) .ret (frL' [(4, .sc (.bool true))]) 37 (stL (s7 z)) := by
  have hl : (resL z 8).length ≤ 1 := len8 z
  cases he : emp (resL z 8) with
  | true =>
    have h : (oSt (ev7 z [] [8] 35 (sq2 (sq2 b7)) [(1, .sc (.int .i64 8)), (2, .ptr 0 0)])).ok = okT [emp (resL z 8), emp (resL z 8)] true := by kernel_rfl
    exact tc7 z (φ := []) (nils := [8]) (by kernel_rfl) (h.trans (by rw [he]; rfl)) ⟨by kernel_rfl, trivial⟩ (by kernel_rfl) ⟨by kernel_rfl, trivial⟩
  | false =>
    have h : (oSt (ev7 z [] [] 35 (sq2 (sq2 b7)) [(1, .sc (.int .i64 8)), (2, .ptr 0 0)])).ok = okT [!emp (resL z 8), !emp (resL z 8), Nat.beq (resL z 8).length (resL z 8).length && Nat.beq (resL z 8).length (resL z 8).length && eqL (resL z 8) (resL z 8) && Nat.blt (resL z 8).length 4294967296] true := by kernel_rfl
    exact tc7 z (φ := []) (nils := []) (by kernel_rfl) (h.trans (by rw [he, blt_ok (by omega), eqL_ok.2 rfl]; simp [okT])) ⟨by kernel_rfl, trivial⟩ (by kernel_rfl) ⟨by kernel_rfl, trivial⟩
theorem end7_9 : TC Try.prog 28 (sq2 (sq2 b7)) (frL' [(1, .sc (.int .i64 9)), (2, .ptr 0 0)]) 35 (stL (s7 z)) .ret (frL' [(4, .sc (.bool true))]) 37 (stL (s7 z)) := by
  have hl : (resL z 9).length ≤ 2 := len9 z
  cases he : emp (resL z 9) with
  | true =>
    have h : (oSt (ev7 z [] [9] 35 (sq2 (sq2 b7)) [(1, .sc (.int .i64 9)), (2, .ptr 0 0)])).ok = okT [emp (resL z 9), emp (resL z 9)] true := by kernel_rfl
    exact tc7 z (φ := []) (nils := [9]) (by kernel_rfl) (h.trans (by rw [he]; rfl)) ⟨by kernel_rfl, trivial⟩ (by kernel_rfl) ⟨by kernel_rfl, trivial⟩
  | false =>
    have h : (oSt (ev7 z [] [] 35 (sq2 (sq2 b7)) [(1, .sc (.int .i64 9)), (2, .ptr 0 0)])).ok = okT [!emp (resL z 9), !emp (resL z 9), Nat.beq (resL z 9).length (resL z 9).length && Nat.beq (resL z 9).length (resL z 9).length && eqL (resL z 9) (resL z 9) && Nat.blt (resL z 9).length 4294967296] true := by kernel_rfl
    exact tc7 z (φ := []) (nils := []) (by kernel_rfl) (h.trans (by rw [he, blt_ok (by omega), eqL_ok.2 rfl]; simp [okT])) ⟨by kernel_rfl, trivial⟩ (by kernel_rfl) ⟨by kernel_rfl, trivial⟩
theorem end7_10 : TC Try.prog 28 (sq2 (sq2 b7)) (frL' [(1, .sc (.int .i64 10)), (2, .ptr 0 0)]) 35 (stL (s7 z)) .ret (frL' [(4, .sc (.bool true))]) 37 (stL (s7 z)) := by
  have hl : (resL z 10).length ≤ 1 := len10 z
  cases he : emp (resL z 10) with
  | true =>
    have h : (oSt (ev7 z [] [10] 35 (sq2 (sq2 b7)) [(1, .sc (.int .i64 10)), (2, .ptr 0 0)])).ok = okT [emp (resL z 10), emp (resL z 10)] true := by kernel_rfl
    exact tc7 z (φ := []) (nils := [10]) (by kernel_rfl) (h.trans (by rw [he]; rfl)) ⟨by kernel_rfl, trivial⟩ (by kernel_rfl) ⟨by kernel_rfl, trivial⟩
  | false =>
    have h : (oSt (ev7 z [] [] 35 (sq2 (sq2 b7)) [(1, .sc (.int .i64 10)), (2, .ptr 0 0)])).ok = okT [!emp (resL z 10), !emp (resL z 10), Nat.beq (resL z 10).length (resL z 10).length && Nat.beq (resL z 10).length (resL z 10).length && eqL (resL z 10) (resL z 10) && Nat.blt (resL z 10).length 4294967296] true := by kernel_rfl
    exact tc7 z (φ := []) (nils := []) (by kernel_rfl) (h.trans (by rw [he, blt_ok (by omega), eqL_ok.2 rfl]; simp [okT])) ⟨by kernel_rfl, trivial⟩ (by kernel_rfl) ⟨by kernel_rfl, trivial⟩
theorem end7_11 : TC Try.prog 28 (sq2 (sq2 b7)) (frL' [(1, .sc (.int .i64 11)), (2, .ptr 0 0)]) 35 (stL (s7 z)) .ret (frL' [(4, .sc (.bool true))]) 37 (stL (s7 z)) := by
  have hl : (resL z 11).length ≤ 4 := len11 z
  cases he : emp (resL z 11) with
  | true =>
    have h : (oSt (ev7 z [] [11] 35 (sq2 (sq2 b7)) [(1, .sc (.int .i64 11)), (2, .ptr 0 0)])).ok = okT [emp (resL z 11), emp (resL z 11)] true := by kernel_rfl
    exact tc7 z (φ := []) (nils := [11]) (by kernel_rfl) (h.trans (by rw [he]; rfl)) ⟨by kernel_rfl, trivial⟩ (by kernel_rfl) ⟨by kernel_rfl, trivial⟩
  | false =>
    have h : (oSt (ev7 z [] [] 35 (sq2 (sq2 b7)) [(1, .sc (.int .i64 11)), (2, .ptr 0 0)])).ok = okT [!emp (resL z 11), !emp (resL z 11), Nat.beq (resL z 11).length (resL z 11).length && Nat.beq (resL z 11).length (resL z 11).length && eqL (resL z 11) (resL z 11) && Nat.blt (resL z 11).length 4294967296] true := by kernel_rfl
    exact tc7 z (φ := []) (nils := []) (by kernel_rfl) (h.trans (by rw [he, blt_ok (by omega), eqL_ok.2 rfl]; simp [okT])) ⟨by kernel_rfl, trivial⟩ (by kernel_rfl) ⟨by kernel_rfl, trivial⟩
theorem end7_12 : TC Try.prog 28 (sq2 (sq2 b7)) (frL' [(1, .sc (.int .i64 12)), (2, .ptr 0 0)]) 35 (stL (s7 z)) .ret (frL' [(4, .sc (.bool true))]) 37 (stL (s7 z)) := by
  have hl : (resL z 12).length ≤ 1 := len12 z
  cases he : emp (resL z 12) with
  | true =>
    have h : (oSt (ev7 z [] [12] 35 (sq2 (sq2 b7)) [(1, .sc (.int .i64 12)), (2, .ptr 0 0)])).ok = okT [emp (resL z 12), emp (resL z 12)] true := by kernel_rfl
    exact tc7 z (φ := []) (nils := [12]) (by kernel_rfl) (h.trans (by rw [he]; rfl)) ⟨by kernel_rfl, trivial⟩ (by kernel_rfl) ⟨by kernel_rfl, trivial⟩
  | false =>
    have h : (oSt (ev7 z [] [] 35 (sq2 (sq2 b7)) [(1, .sc (.int .i64 12)), (2, .ptr 0 0)])).ok = okT [!emp (resL z 12), !emp (resL z 12), Nat.beq (resL z 12).length (resL z 12).length && Nat.beq (resL z 12).length (resL z 12).length && eqL (resL z 12) (resL z 12) && Nat.blt (resL z 12).length 4294967296] true := by kernel_rfl
    exact tc7 z (φ := []) (nils := []) (by kernel_rfl) (h.trans (by rw [he, blt_ok (by omega), eqL_ok.2 rfl]; simp [okT])) ⟨by kernel_rfl, trivial⟩ (by kernel_rfl) ⟨by kernel_rfl, trivial⟩
theorem end7_13 : TC Try.prog 28 (sq2 (sq2 b7)) (frL' [(1, .sc (.int .i64 13)), (2, .ptr 0 0)]) 35 (stL (s7 z)) .ret (frL' [(4, .sc (.bool true))]) 37 (stL (s7 z)) := by
  have hl : (resL z 13).length ≤ 2 := len13 z
  cases he : emp (resL z 13) with
  | true =>
    have h : (oSt (ev7 z [] [13] 35 (sq2 (sq2 b7)) [(1, .sc (.int .i64 13)), (2, .ptr 0 0)])).ok = okT [emp (resL z 13), emp (resL z 13)] true := by kernel_rfl
    exact tc7 z (φ := []) (nils := [13]) (by kernel_rfl) (h.trans (by rw [he]; rfl)) ⟨by kernel_rfl, trivial⟩ (by kernel_rfl) ⟨by kernel_rfl, trivial⟩
  | false =>
    have h : (oSt (ev7 z [] [] 35 (sq2 (sq2 b7)) [(1, .sc (.int .i64 13)), (2, .ptr 0 0)])).ok = okT [!emp (resL z 13), !emp (resL z 13), Nat.beq (resL z 13).length (resL z 13).length && Nat.beq (resL z 13).length (resL z 13).length && eqL (resL z 13) (resL z 13) && Nat.blt (resL z 13).length 4294967296] true := by kernel_rfl
    exact tc7 z (φ := []) (nils := []) (by kernel_rfl) (h.trans (by rw [he, blt_ok (by omega), eqL_ok.2 rfl]; simp [okT])) ⟨by kernel_rfl, trivial⟩ (by kernel_rfl) ⟨by kernel_rfl, trivial⟩
theorem end7_14 : TC Try.prog 28 (sq2 (sq2 b7)) (frL' [(1, .sc (.int .i64 14)), (2, .ptr 0 0)]) 35 (stL (s7 z)) .ret (frL' [(4, .sc (.bool true))]) 37 (stL (s7 z)) := by
  have hl : (resL z 14).length ≤ 1 := len14 z
  cases he : emp (resL z 14) with
  | true =>
    have h : (oSt (ev7 z [] [14] 35 (sq2 (sq2 b7)) [(1, .sc (.int .i64 14)), (2, .ptr 0 0)])).ok = okT [emp (resL z 14), emp (resL z 14)] true := by kernel_rfl
    exact tc7 z (φ := []) (nils := [14]) (by kernel_rfl) (h.trans (by rw [he]; rfl)) ⟨by kernel_rfl, trivial⟩ (by kernel_rfl) ⟨by kernel_rfl, trivial⟩
  | false =>
    have h : (oSt (ev7 z [] [] 35 (sq2 (sq2 b7)) [(1, .sc (.int .i64 14)), (2, .ptr 0 0)])).ok = okT [!emp (resL z 14), !emp (resL z 14), Nat.beq (resL z 14).length (resL z 14).length && Nat.beq (resL z 14).length (resL z 14).length && eqL (resL z 14) (resL z 14) && Nat.blt (resL z 14).length 4294967296] true := by kernel_rfl
    exact tc7 z (φ := []) (nils := []) (by kernel_rfl) (h.trans (by rw [he, blt_ok (by omega), eqL_ok.2 rfl]; simp [okT])) ⟨by kernel_rfl, trivial⟩ (by kernel_rfl) ⟨by kernel_rfl, trivial⟩
theorem end7 : TC Try.prog 28 (sq2 (sq2 b7)) (frL' [(1, .sc (.int .i64 v)), (2, .ptr 0 0)]) 35 (stL (s7 z)) .ret (frL' [(4, .sc (.bool true))]) 37 (stL (s7 z)) := by
  rcases int_cases v 15 with ⟨m, rfl⟩ | ⟨i, hi, rfl⟩ | ⟨m, rfl⟩
  · exact end7_low z m
  · match i, hi with
    | 0, _ => exact end7_0 z
    | 1, _ => exact end7_1 z
    | 2, _ => exact end7_2 z
    | 3, _ => exact end7_3 z
    | 4, _ => exact end7_4 z
    | 5, _ => exact end7_5 z
    | 6, _ => exact end7_6 z
    | 7, _ => exact end7_7 z
    | 8, _ => exact end7_8 z
    | 9, _ => exact end7_9 z
    | 10, _ => exact end7_10 z
    | 11, _ => exact end7_11 z
    | 12, _ => exact end7_12 z
    | 13, _ => exact end7_13 z
    | 14, _ => exact end7_14 z
  · exact end7_high z m
theorem first7 : TC Try.prog 28 (sq1 b7) (frL' [(0, .agg (nums' .i64 31 z)), (1, .sc (.int .i64 v))]) 0 (stL []) .normal (frL' [(1, .sc (.int .i64 v)), (2, .ptr 0 0)]) 1 (stL (s7 z)) :=
  run_tc hm (cR_ok []) [] (noLoops_ok _ _ _) 400 [(0, .agg (nums' .i64 31 z)), (1, .sc (.int .i64 v))] [] [(1, .sc (.int .i64 v)), (2, .ptr 0 0)] (s7 z) (by kernel_rfl) (by kernel_rfl) ⟨by kernel_rfl, by kernel_rfl, trivial⟩ (Nat.le_of_ble_eq_true (by kernel_rfl)) ⟨by kernel_rfl, trivial⟩
theorem spec7 : Spec Try.prog 7 [.agg (nums' .i64 31 z), .sc (.int .i64 v)] 0 (stL []) (.sc (.bool true)) 37 (stL (s7 z)) := by
  refine Spec.enter (c := b7) Try.func7 (by kernel_rfl) (by kernel_rfl) (Nat.le_of_ble_eq_true (by kernel_rfl)) ?_ (.inr rfl) (fr' := frL' [(4, .sc (.bool true))]) (by kernel_rfl)
  refine TC.pre (fr1 := frL' [(0, .agg (nums' .i64 31 z)), (1, .sc (.int .i64 v))]) ?_ (frHas.le ⟨rfl, rfl, trivial⟩)
  rw [b7_eq]
  exact TC.seq (first7 z v) (TC.seq (TC.seq (init7 z v) (TC.block (TC.loop (loop7 z v)) (.inr rfl))) (end7 z v))
end
theorem stL_nil : stL [] = no := rfl
theorem TreeReach_calls (v0 v1 : Value) (W : World) (base : Nat) (h0 : Value.okWide Try.prog W .any base 32 v0) (h1 : Value.okWide Try.prog W .any base 3 v1) :
    Calls Try.prog 7 #[v0, v1] W (fun e W' => e = .returned (.bool true) ∧ Below W.heap.size W W') := by
  obtain ⟨z, rfl, _⟩ := open_nums (N := 31) (k := .i64) (by kernel_rfl) (by kernel_rfl) (by kernel_rfl) h0
  obtain ⟨l, rfl, _⟩ := open_num Try.underlying3 h1
  exact (spec7 z l).law (xs := [_, _]) ⟨R_nums _ _ _ _, R_int _ _ _, trivial⟩ W
end Go.Proofs.Ytnklnboglijcbaa.D
