/- Each member below a node is under just one node of those by which it is reached. Conditions: none beyond the statement's own. -/
import Derived.Test.YtnklnboglijcbaaDTreeOnceb
namespace Go.Proofs.Ytnklnboglijcbaa.D
open Go Go.RowKit
set_option maxRecDepth 100000
set_option linter.unusedVariables false
theorem nilR9_7 (z : Nat → Int) (hLe : resL z 9 = []) : TC Try.prog 68 o8 (frL' (fo8 9 nilV 7)) 1 (stL (s0' z)) .normal (frL' (fo8 9 nilV 8)) 1 (stL (s0' z)) := by
  rw [o8_eq]
  cases hz : eqb (z 15) 0 with
  | false => exact TC.seq (nilA7 z 9 ) (TC.seq (TC.block (TC.seq (nilB7 z 9 ) (TC.seq (nilI7 z 9) (nilD9_7_true_0 z (by rw [hz]; rfl)))) (.inl rfl)) (nilE7 z 9 ))
  | true => exact TC.seq (nilA7 z 9 ) (TC.seq (TC.block (TC.seq (nilB7 z 9 ) (TC.seq (nilI7 z 9) (nilD9_7_false_0 z (by rw [hz]; rfl)))) (.inl rfl)) (nilE7 z 9 ))
theorem nilW9 (z : Nat → Int) (hLe : resL z 9 = []) : TC Try.prog 68 (.seq (.seq (sq1 (sq1 (sq2 out8))) (.block 0 (.loop o8))) (sq2 (sq2 out8))) (frL' [(1, .sc (.int .i64 9)), (2, .ptr 0 0), (5, nilV)]) 1 (stL (s0' z)) .ret (frL' [(4, .sc (.bool true))]) 1 (stL (s0' z)) :=
  TC.seq (TC.seq (nilS z 9 ) (TC.block (TC.loop (k := 9) (TR.more (nilR9_0 z hLe) (TR.more (nilR9_1 z hLe) (TR.more (nilR9_2 z hLe) (TR.more (nilR9_3 z hLe) (TR.more (nilR9_4 z hLe) (TR.more (nilR9_5 z hLe) (TR.more (nilR9_6 z hLe) (TR.more (nilR9_7 z hLe) (TR.out (nilX z 9 ) (by simp))))))))))) (.inr rfl))) (nilZ z )
theorem nilD10_0_true_0 (z : Nat → Int) (h : (!eqb (z 1) 0) = true) : TC Try.prog 68 (sq2 (sq2 in8)) (frL' (fe8 10 nilV 0 0)) 1 (stL (s0' z)) .normal (frL' (fo8 10 nilV 0)) 1 (stL (s0' z)) := by
  have e : (oSt (ev8 [(0, true), (1, true), (2, true), (3, true)] [] 1 (sq2 (sq2 in8)) (fe8 10 nilV 0 0) (s0' z))).ok = okT [(!eqb (z 1) 0) == true, (!eqb (z 1) 0) == true, (!eqb (z 1) 0) == true, (!eqb (z 1) 0) == true] true := by kernel_rfl
  exact tc8 (φ := [(0, true), (1, true), (2, true), (3, true)]) (nils := []) (by kernel_rfl) (e.trans (by rw [h]; rfl)) ⟨by kernel_rfl, by kernel_rfl, by kernel_rfl, by kernel_rfl, trivial⟩ (by kernel_rfl) ⟨by kernel_rfl, trivial⟩
theorem nilD10_0_false_0 (z : Nat → Int) (h : (!eqb (z 1) 0) = false) : TC Try.prog 68 (sq2 (sq2 in8)) (frL' (fe8 10 nilV 0 0)) 1 (stL (s0' z)) .normal (frL' (fo8 10 nilV 0)) 1 (stL (s0' z)) := by
  have e : (oSt (ev8 [(0, false), (1, false), (2, false), (3, false)] [] 1 (sq2 (sq2 in8)) (fe8 10 nilV 0 0) (s0' z))).ok = okT [(!eqb (z 1) 0) == false, (!eqb (z 1) 0) == false, (!eqb (z 1) 0) == false, (!eqb (z 1) 0) == false] true := by kernel_rfl
  exact tc8 (φ := [(0, false), (1, false), (2, false), (3, false)]) (nils := []) (by kernel_rfl) (e.trans (by rw [h]; rfl)) ⟨by kernel_rfl, by kernel_rfl, by kernel_rfl, by kernel_rfl, trivial⟩ (by kernel_rfl) ⟨by kernel_rfl, trivial⟩
theorem nilR10_0 (z : Nat → Int) (hLe : resL z 10 = []) : TC Try.prog 68 o8 (frL' (fo8 10 nilV 0)) 1 (stL (s0' z)) .normal (frL' (fo8 10 nilV 1)) 1 (stL (s0' z)) := by
  rw [o8_eq]
  cases hz : eqb (z 1) 0 with
  | false => exact TC.seq (nilA0 z 10 ) (TC.seq (TC.block (TC.seq (nilB0 z 10 ) (TC.seq (nilI0 z 10) (nilD10_0_true_0 z (by rw [hz]; rfl)))) (.inl rfl)) (nilE0 z 10 ))
  | true => exact TC.seq (nilA0 z 10 ) (TC.seq (TC.block (TC.seq (nilB0 z 10 ) (TC.seq (nilI0 z 10) (nilD10_0_false_0 z (by rw [hz]; rfl)))) (.inl rfl)) (nilE0 z 10 ))
theorem nilD10_1_true_0 (z : Nat → Int) (h : (!eqb (z 3) 0) = true) : TC Try.prog 68 (sq2 (sq2 in8)) (frL' (fe8 10 nilV 1 0)) 1 (stL (s0' z)) .normal (frL' (fo8 10 nilV 1)) 1 (stL (s0' z)) := by
  have e : (oSt (ev8 [(0, true), (1, true), (2, true), (3, true)] [] 1 (sq2 (sq2 in8)) (fe8 10 nilV 1 0) (s0' z))).ok = okT [(!eqb (z 3) 0) == true, (!eqb (z 3) 0) == true, (!eqb (z 3) 0) == true, (!eqb (z 3) 0) == true] true := by kernel_rfl
  exact tc8 (φ := [(0, true), (1, true), (2, true), (3, true)]) (nils := []) (by kernel_rfl) (e.trans (by rw [h]; rfl)) ⟨by kernel_rfl, by kernel_rfl, by kernel_rfl, by kernel_rfl, trivial⟩ (by kernel_rfl) ⟨by kernel_rfl, trivial⟩
theorem nilD10_1_false_0 (z : Nat → Int) (h : (!eqb (z 3) 0) = false) : TC Try.prog 68 (sq2 (sq2 in8)) (frL' (fe8 10 nilV 1 0)) 1 (stL (s0' z)) .normal (frL' (fo8 10 nilV 1)) 1 (stL (s0' z)) := by
  have e : (oSt (ev8 [(0, false), (1, false), (2, false), (3, false)] [] 1 (sq2 (sq2 in8)) (fe8 10 nilV 1 0) (s0' z))).ok = okT [(!eqb (z 3) 0) == false, (!eqb (z 3) 0) == false, (!eqb (z 3) 0) == false, (!eqb (z 3) 0) == false] true := by kernel_rfl
  exact tc8 (φ := [(0, false), (1, false), (2, false), (3, false)]) (nils := []) (by kernel_rfl) (e.trans (by rw [h]; rfl)) ⟨by kernel_rfl, by kernel_rfl, by kernel_rfl, by kernel_rfl, trivial⟩ (by kernel_rfl) ⟨by kernel_rfl, trivial⟩
theorem nilR10_1 (z : Nat → Int) (hLe : resL z 10 = []) : TC Try.prog 68 o8 (frL' (fo8 10 nilV 1)) 1 (stL (s0' z)) .normal (frL' (fo8 10 nilV 2)) 1 (stL (s0' z)) := by
  rw [o8_eq]
  cases hz : eqb (z 3) 0 with
  | false => exact TC.seq (nilA1 z 10 ) (TC.seq (TC.block (TC.seq (nilB1 z 10 ) (TC.seq (nilI1 z 10) (nilD10_1_true_0 z (by rw [hz]; rfl)))) (.inl rfl)) (nilE1 z 10 ))
  | true => exact TC.seq (nilA1 z 10 ) (TC.seq (TC.block (TC.seq (nilB1 z 10 ) (TC.seq (nilI1 z 10) (nilD10_1_false_0 z (by rw [hz]; rfl)))) (.inl rfl)) (nilE1 z 10 ))
theorem nilD10_2_true_0 (z : Nat → Int) (h : (!eqb (z 5) 0) = true) : TC Try.prog 68 (sq2 (sq2 in8)) (frL' (fe8 10 nilV 2 0)) 1 (stL (s0' z)) .normal (frL' (fo8 10 nilV 2)) 1 (stL (s0' z)) := by
  have e : (oSt (ev8 [(0, true), (1, true), (2, true), (3, true)] [] 1 (sq2 (sq2 in8)) (fe8 10 nilV 2 0) (s0' z))).ok = okT [(!eqb (z 5) 0) == true, (!eqb (z 5) 0) == true, (!eqb (z 5) 0) == true, (!eqb (z 5) 0) == true] true := by kernel_rfl
  exact tc8 (φ := [(0, true), (1, true), (2, true), (3, true)]) (nils := []) (by kernel_rfl) (e.trans (by rw [h]; rfl)) ⟨by kernel_rfl, by kernel_rfl, by kernel_rfl, by kernel_rfl, trivial⟩ (by kernel_rfl) ⟨by kernel_rfl, trivial⟩
theorem nilD10_2_false_0 (z : Nat → Int) (h : (!eqb (z 5) 0) = false) : TC Try.prog 68 (sq2 (sq2 in8)) (frL' (fe8 10 nilV 2 0)) 1 (stL (s0' z)) .normal (frL' (fo8 10 nilV 2)) 1 (stL (s0' z)) := by
  have e : (oSt (ev8 [(0, false), (1, false), (2, false), (3, false)] [] 1 (sq2 (sq2 in8)) (fe8 10 nilV 2 0) (s0' z))).ok = okT [(!eqb (z 5) 0) == false, (!eqb (z 5) 0) == false, (!eqb (z 5) 0) == false, (!eqb (z 5) 0) == false] true := by kernel_rfl
  exact tc8 (φ := [(0, false), (1, false), (2, false), (3, false)]) (nils := []) (by kernel_rfl) (e.trans (by rw [h]; rfl)) ⟨by kernel_rfl, by kernel_rfl, by kernel_rfl, by kernel_rfl, trivial⟩ (by kernel_rfl) ⟨by kernel_rfl, trivial⟩
theorem nilR10_2 (z : Nat → Int) (hLe : resL z 10 = []) : TC Try.prog 68 o8 (frL' (fo8 10 nilV 2)) 1 (stL (s0' z)) .normal (frL' (fo8 10 nilV 3)) 1 (stL (s0' z)) := by
  rw [o8_eq]
  cases hz : eqb (z 5) 0 with
  | false => exact TC.seq (nilA2 z 10 ) (TC.seq (TC.block (TC.seq (nilB2 z 10 ) (TC.seq (nilI2 z 10) (nilD10_2_true_0 z (by rw [hz]; rfl)))) (.inl rfl)) (nilE2 z 10 ))
  | true => exact TC.seq (nilA2 z 10 ) (TC.seq (TC.block (TC.seq (nilB2 z 10 ) (TC.seq (nilI2 z 10) (nilD10_2_false_0 z (by rw [hz]; rfl)))) (.inl rfl)) (nilE2 z 10 ))
theorem nilD10_3_true_0 (z : Nat → Int) (h : (!eqb (z 7) 0) = true) : TC Try.prog 68 (sq2 (sq2 in8)) (frL' (fe8 10 nilV 3 0)) 1 (stL (s0' z)) .normal (frL' (fo8 10 nilV 3)) 1 (stL (s0' z)) := by
  have e : (oSt (ev8 [(0, true), (1, true), (2, true), (3, true)] [] 1 (sq2 (sq2 in8)) (fe8 10 nilV 3 0) (s0' z))).ok = okT [(!eqb (z 7) 0) == true, (!eqb (z 7) 0) == true, (!eqb (z 7) 0) == true, (!eqb (z 7) 0) == true] true := by kernel_rfl
  exact tc8 (φ := [(0, true), (1, true), (2, true), (3, true)]) (nils := []) (by kernel_rfl) (e.trans (by rw [h]; rfl)) ⟨by kernel_rfl, by kernel_rfl, by kernel_rfl, by kernel_rfl, trivial⟩ (by kernel_rfl) ⟨by kernel_rfl, trivial⟩
theorem nilD10_3_false_0 (z : Nat → Int) (h : (!eqb (z 7) 0) = false) : TC Try.prog 68 (sq2 (sq2 in8)) (frL' (fe8 10 nilV 3 0)) 1 (stL (s0' z)) .normal (frL' (fo8 10 nilV 3)) 1 (stL (s0' z)) := by
  have e : (oSt (ev8 [(0, false), (1, false), (2, false), (3, false)] [] 1 (sq2 (sq2 in8)) (fe8 10 nilV 3 0) (s0' z))).ok = okT [(!eqb (z 7) 0) == false, (!eqb (z 7) 0) == false, (!eqb (z 7) 0) == false, (!eqb (z 7) 0) == false] true := by kernel_rfl
  exact tc8 (φ := [(0, false), (1, false), (2, false), (3, false)]) (nils := []) (by kernel_rfl) (e.trans (by rw [h]; rfl)) ⟨by kernel_rfl, by kernel_rfl, by kernel_rfl, by kernel_rfl, trivial⟩ (by kernel_rfl) ⟨by kernel_rfl, trivial⟩
theorem nilR10_3 (z : Nat → Int) (hLe : resL z 10 = []) : TC Try.prog 68 o8 (frL' (fo8 10 nilV 3)) 1 (stL (s0' z)) .normal (frL' (fo8 10 nilV 4)) 1 (stL (s0' z)) := by
  rw [o8_eq]
  cases hz : eqb (z 7) 0 with
  | false => exact TC.seq (nilA3 z 10 ) (TC.seq (TC.block (TC.seq (nilB3 z 10 ) (TC.seq (nilI3 z 10) (nilD10_3_true_0 z (by rw [hz]; rfl)))) (.inl rfl)) (nilE3 z 10 ))
  | true => exact TC.seq (nilA3 z 10 ) (TC.seq (TC.block (TC.seq (nilB3 z 10 ) (TC.seq (nilI3 z 10) (nilD10_3_false_0 z (by rw [hz]; rfl)))) (.inl rfl)) (nilE3 z 10 ))
theorem nilD10_4_true_0 (z : Nat → Int) (h : (!eqb (z 9) 0) = true) : TC Try.prog 68 (sq2 (sq2 in8)) (frL' (fe8 10 nilV 4 0)) 1 (stL (s0' z)) .normal (frL' (fo8 10 nilV 4)) 1 (stL (s0' z)) := by
  have e : (oSt (ev8 [(0, true), (1, true), (2, true), (3, true)] [] 1 (sq2 (sq2 in8)) (fe8 10 nilV 4 0) (s0' z))).ok = okT [(!eqb (z 9) 0) == true, (!eqb (z 9) 0) == true, (!eqb (z 9) 0) == true, (!eqb (z 9) 0) == true] true := by kernel_rfl
  exact tc8 (φ := [(0, true), (1, true), (2, true), (3, true)]) (nils := []) (by kernel_rfl) (e.trans (by rw [h]; rfl)) ⟨by kernel_rfl, by kernel_rfl, by kernel_rfl, by kernel_rfl, trivial⟩ (by kernel_rfl) ⟨by kernel_rfl, trivial⟩
theorem nilD10_4_false_0 (z : Nat → Int) (h : (!eqb (z 9) 0) = false) : TC Try.prog 68 (sq2 (sq2 in8)) (frL' (fe8 10 nilV 4 0)) 1 (stL (s0' z)) .normal (frL' (fo8 10 nilV 4)) 1 (stL (s0' z)) := by
  have e : (oSt (ev8 [(0, false), (1, false), (2, false), (3, false)] [] 1 (sq2 (sq2 in8)) (fe8 10 nilV 4 0) (s0' z))).ok = okT [(!eqb (z 9) 0) == false, (!eqb (z 9) 0) == false, (!eqb (z 9) 0) == false, (!eqb (z 9) 0) == false] true := by kernel_rfl
  exact tc8 (φ := [(0, false), (1, false), (2, false), (3, false)]) (nils := []) (by kernel_rfl) (e.trans (by rw [h]; rfl)) ⟨by kernel_rfl, by kernel_rfl, by kernel_rfl, by kernel_rfl, trivial⟩ (by kernel_rfl) ⟨by kernel_rfl, trivial⟩
theorem nilR10_4 (z : Nat → Int) (hLe : resL z 10 = []) : TC Try.prog 68 o8 (frL' (fo8 10 nilV 4)) 1 (stL (s0' z)) .normal (frL' (fo8 10 nilV 5)) 1 (stL (s0' z)) := by
  rw [o8_eq]
  cases hz : eqb (z 9) 0 with
  | false => exact TC.seq (nilA4 z 10 ) (TC.seq (TC.block (TC.seq (nilB4 z 10 ) (TC.seq (nilI4 z 10) (nilD10_4_true_0 z (by rw [hz]; rfl)))) (.inl rfl)) (nilE4 z 10 ))
  | true => exact TC.seq (nilA4 z 10 ) (TC.seq (TC.block (TC.seq (nilB4 z 10 ) (TC.seq (nilI4 z 10) (nilD10_4_false_0 z (by rw [hz]; rfl)))) (.inl rfl)) (nilE4 z 10 ))
theorem nilD10_5_false_0 (z : Nat → Int) (h : (!eqb (z 11) 0) = false) : TC Try.prog 68 (sq2 (sq2 in8)) (frL' (fe8 10 nilV 5 0)) 1 (stL (s0' z)) .normal (frL' (fo8 10 nilV 5)) 1 (stL (s0' z)) := by
  have e : (oSt (ev8 [(0, false), (1, false), (2, false), (3, false)] [] 1 (sq2 (sq2 in8)) (fe8 10 nilV 5 0) (s0' z))).ok = okT [(!eqb (z 11) 0) == false, (!eqb (z 11) 0) == false, (!eqb (z 11) 0) == false, (!eqb (z 11) 0) == false] true := by kernel_rfl
  exact tc8 (φ := [(0, false), (1, false), (2, false), (3, false)]) (nils := []) (by kernel_rfl) (e.trans (by rw [h]; rfl)) ⟨by kernel_rfl, by kernel_rfl, by kernel_rfl, by kernel_rfl, trivial⟩ (by kernel_rfl) ⟨by kernel_rfl, trivial⟩
theorem nilR10_5 (z : Nat → Int) (hLe : resL z 10 = []) : TC Try.prog 68 o8 (frL' (fo8 10 nilV 5)) 1 (stL (s0' z)) .normal (frL' (fo8 10 nilV 6)) 1 (stL (s0' z)) := by
  rw [o8_eq]
  have hr := c10_5 z
  rw [hLe] at hr
  cases hz : eqb (z 11) 0 with
  | false => exact absurd (hr.2 hz) (by simp [ucnt])
  | true => exact TC.seq (nilA5 z 10 ) (TC.seq (TC.block (TC.seq (nilB5 z 10 ) (TC.seq (nilI5 z 10) (nilD10_5_false_0 z (by rw [hz]; rfl)))) (.inl rfl)) (nilE5 z 10 ))
theorem nilD10_6_true_0 (z : Nat → Int) (h : (!eqb (z 13) 0) = true) : TC Try.prog 68 (sq2 (sq2 in8)) (frL' (fe8 10 nilV 6 0)) 1 (stL (s0' z)) .normal (frL' (fo8 10 nilV 6)) 1 (stL (s0' z)) := by
  have e : (oSt (ev8 [(0, true), (1, true), (2, true), (3, true)] [] 1 (sq2 (sq2 in8)) (fe8 10 nilV 6 0) (s0' z))).ok = okT [(!eqb (z 13) 0) == true, (!eqb (z 13) 0) == true, (!eqb (z 13) 0) == true, (!eqb (z 13) 0) == true] true := by kernel_rfl
  exact tc8 (φ := [(0, true), (1, true), (2, true), (3, true)]) (nils := []) (by kernel_rfl) (e.trans (by rw [h]; rfl)) ⟨by kernel_rfl, by kernel_rfl, by kernel_rfl, by kernel_rfl, trivial⟩ (by kernel_rfl) ⟨by kernel_rfl, trivial⟩
theorem nilD10_6_false_0 (z : Nat → Int) (h : (!eqb (z 13) 0) = false) : TC Try.prog 68 (sq2 (sq2 in8)) (frL' (fe8 10 nilV 6 0)) 1 (stL (s0' z)) .normal (frL' (fo8 10 nilV 6)) 1 (stL (s0' z)) := by
  have e : (oSt (ev8 [(0, false), (1, false), (2, false), (3, false)] [] 1 (sq2 (sq2 in8)) (fe8 10 nilV 6 0) (s0' z))).ok = okT [(!eqb (z 13) 0) == false, (!eqb (z 13) 0) == false, (!eqb (z 13) 0) == false, (!eqb (z 13) 0) == false] true := by kernel_rfl
  exact tc8 (φ := [(0, false), (1, false), (2, false), (3, false)]) (nils := []) (by kernel_rfl) (e.trans (by rw [h]; rfl)) ⟨by kernel_rfl, by kernel_rfl, by kernel_rfl, by kernel_rfl, trivial⟩ (by kernel_rfl) ⟨by kernel_rfl, trivial⟩
theorem nilR10_6 (z : Nat → Int) (hLe : resL z 10 = []) : TC Try.prog 68 o8 (frL' (fo8 10 nilV 6)) 1 (stL (s0' z)) .normal (frL' (fo8 10 nilV 7)) 1 (stL (s0' z)) := by
  rw [o8_eq]
  cases hz : eqb (z 13) 0 with
  | false => exact TC.seq (nilA6 z 10 ) (TC.seq (TC.block (TC.seq (nilB6 z 10 ) (TC.seq (nilI6 z 10) (nilD10_6_true_0 z (by rw [hz]; rfl)))) (.inl rfl)) (nilE6 z 10 ))
  | true => exact TC.seq (nilA6 z 10 ) (TC.seq (TC.block (TC.seq (nilB6 z 10 ) (TC.seq (nilI6 z 10) (nilD10_6_false_0 z (by rw [hz]; rfl)))) (.inl rfl)) (nilE6 z 10 ))
theorem nilD10_7_true_0 (z : Nat → Int) (h : (!eqb (z 15) 0) = true) : TC Try.prog 68 (sq2 (sq2 in8)) (frL' (fe8 10 nilV 7 0)) 1 (stL (s0' z)) .normal (frL' (fo8 10 nilV 7)) 1 (stL (s0' z)) := by
  have e : (oSt (ev8 [(0, true), (1, true), (2, true), (3, true)] [] 1 (sq2 (sq2 in8)) (fe8 10 nilV 7 0) (s0' z))).ok = okT [(!eqb (z 15) 0) == true, (!eqb (z 15) 0) == true, (!eqb (z 15) 0) == true, (!eqb (z 15) 0) == true] true := by kernel_rfl
  exact tc8 (φ := [(0, true), (1, true), (2, true), (3, true)]) (nils := []) (by kernel_rfl) (e.trans (by rw [h]; rfl)) ⟨by kernel_rfl, by kernel_rfl, by kernel_rfl, by kernel_rfl, trivial⟩ (by kernel_rfl) ⟨by kernel_rfl, trivial⟩
theorem nilD10_7_false_0 (z : Nat → Int) (h : (!eqb (z 15) 0) = false) : TC Try.prog 68 (sq2 (sq2 in8)) (frL' (fe8 10 nilV 7 0)) 1 (stL (s0' z)) .normal (frL' (fo8 10 nilV 7)) 1 (stL (s0' z)) := by
  have e : (oSt (ev8 [(0, false), (1, false), (2, false), (3, false)] [] 1 (sq2 (sq2 in8)) (fe8 10 nilV 7 0) (s0' z))).ok = okT [(!eqb (z 15) 0) == false, (!eqb (z 15) 0) == false, (!eqb (z 15) 0) == false, (!eqb (z 15) 0) == false] true := by kernel_rfl
  exact tc8 (φ := [(0, false), (1, false), (2, false), (3, false)]) (nils := []) (by kernel_rfl) (e.trans (by rw [h]; rfl)) ⟨by kernel_rfl, by kernel_rfl, by kernel_rfl, by kernel_rfl, trivial⟩ (by kernel_rfl) ⟨by kernel_rfl, trivial⟩
theorem nilR10_7 (z : Nat → Int) (hLe : resL z 10 = []) : TC Try.prog 68 o8 (frL' (fo8 10 nilV 7)) 1 (stL (s0' z)) .normal (frL' (fo8 10 nilV 8)) 1 (stL (s0' z)) := by
  rw [o8_eq]
  cases hz : eqb (z 15) 0 with
  | false => exact TC.seq (nilA7 z 10 ) (TC.seq (TC.block (TC.seq (nilB7 z 10 ) (TC.seq (nilI7 z 10) (nilD10_7_true_0 z (by rw [hz]; rfl)))) (.inl rfl)) (nilE7 z 10 ))
  | true => exact TC.seq (nilA7 z 10 ) (TC.seq (TC.block (TC.seq (nilB7 z 10 ) (TC.seq (nilI7 z 10) (nilD10_7_false_0 z (by rw [hz]; rfl)))) (.inl rfl)) (nilE7 z 10 ))
theorem nilW10 (z : Nat → Int) (hLe : resL z 10 = []) : TC Try.prog 68 (.seq (.seq (sq1 (sq1 (sq2 out8))) (.block 0 (.loop o8))) (sq2 (sq2 out8))) (frL' [(1, .sc (.int .i64 10)), (2, .ptr 0 0), (5, nilV)]) 1 (stL (s0' z)) .ret (frL' [(4, .sc (.bool true))]) 1 (stL (s0' z)) :=
  TC.seq (TC.seq (nilS z 10 ) (TC.block (TC.loop (k := 9) (TR.more (nilR10_0 z hLe) (TR.more (nilR10_1 z hLe) (TR.more (nilR10_2 z hLe) (TR.more (nilR10_3 z hLe) (TR.more (nilR10_4 z hLe) (TR.more (nilR10_5 z hLe) (TR.more (nilR10_6 z hLe) (TR.more (nilR10_7 z hLe) (TR.out (nilX z 10 ) (by simp))))))))))) (.inr rfl))) (nilZ z )
theorem nilD11_0_true_0 (z : Nat → Int) (h : (!eqb (z 1) 0) = true) : TC Try.prog 68 (sq2 (sq2 in8)) (frL' (fe8 11 nilV 0 0)) 1 (stL (s0' z)) .normal (frL' (fo8 11 nilV 0)) 1 (stL (s0' z)) := by
  have e : (oSt (ev8 [(0, true), (1, true), (2, true), (3, true)] [] 1 (sq2 (sq2 in8)) (fe8 11 nilV 0 0) (s0' z))).ok = okT [(!eqb (z 1) 0) == true, (!eqb (z 1) 0) == true, (!eqb (z 1) 0) == true, (!eqb (z 1) 0) == true] true := by kernel_rfl
  exact tc8 (φ := [(0, true), (1, true), (2, true), (3, true)]) (nils := []) (by kernel_rfl) (e.trans (by rw [h]; rfl)) ⟨by kernel_rfl, by kernel_rfl, by kernel_rfl, by kernel_rfl, trivial⟩ (by kernel_rfl) ⟨by kernel_rfl, trivial⟩
theorem nilD11_0_false_0 (z : Nat → Int) (h : (!eqb (z 1) 0) = false) : TC Try.prog 68 (sq2 (sq2 in8)) (frL' (fe8 11 nilV 0 0)) 1 (stL (s0' z)) .normal (frL' (fo8 11 nilV 0)) 1 (stL (s0' z)) := by
  have e : (oSt (ev8 [(0, false), (1, false), (2, false), (3, false)] [] 1 (sq2 (sq2 in8)) (fe8 11 nilV 0 0) (s0' z))).ok = okT [(!eqb (z 1) 0) == false, (!eqb (z 1) 0) == false, (!eqb (z 1) 0) == false, (!eqb (z 1) 0) == false] true := by kernel_rfl
  exact tc8 (φ := [(0, false), (1, false), (2, false), (3, false)]) (nils := []) (by kernel_rfl) (e.trans (by rw [h]; rfl)) ⟨by kernel_rfl, by kernel_rfl, by kernel_rfl, by kernel_rfl, trivial⟩ (by kernel_rfl) ⟨by kernel_rfl, trivial⟩
theorem nilR11_0 (z : Nat → Int) (hLe : resL z 11 = []) : TC Try.prog 68 o8 (frL' (fo8 11 nilV 0)) 1 (stL (s0' z)) .normal (frL' (fo8 11 nilV 1)) 1 (stL (s0' z)) := by
  rw [o8_eq]
  cases hz : eqb (z 1) 0 with
  | false => exact TC.seq (nilA0 z 11 ) (TC.seq (TC.block (TC.seq (nilB0 z 11 ) (TC.seq (nilI0 z 11) (nilD11_0_true_0 z (by rw [hz]; rfl)))) (.inl rfl)) (nilE0 z 11 ))
  | true => exact TC.seq (nilA0 z 11 ) (TC.seq (TC.block (TC.seq (nilB0 z 11 ) (TC.seq (nilI0 z 11) (nilD11_0_false_0 z (by rw [hz]; rfl)))) (.inl rfl)) (nilE0 z 11 ))
theorem nilD11_1_true_0 (z : Nat → Int) (h : (!eqb (z 3) 0) = true) : TC Try.prog 68 (sq2 (sq2 in8)) (frL' (fe8 11 nilV 1 0)) 1 (stL (s0' z)) .normal (frL' (fo8 11 nilV 1)) 1 (stL (s0' z)) := by
  have e : (oSt (ev8 [(0, true), (1, true), (2, true), (3, true)] [] 1 (sq2 (sq2 in8)) (fe8 11 nilV 1 0) (s0' z))).ok = okT [(!eqb (z 3) 0) == true, (!eqb (z 3) 0) == true, (!eqb (z 3) 0) == true, (!eqb (z 3) 0) == true] true := by kernel_rfl
  exact tc8 (φ := [(0, true), (1, true), (2, true), (3, true)]) (nils := []) (by kernel_rfl) (e.trans (by rw [h]; rfl)) ⟨by kernel_rfl, by kernel_rfl, by kernel_rfl, by kernel_rfl, trivial⟩ (by kernel_rfl) ⟨by kernel_rfl, trivial⟩
theorem nilD11_1_false_0 (z : Nat → Int) (h : (!eqb (z 3) 0) = false) : TC Try.prog 68 (sq2 (sq2 in8)) (frL' (fe8 11 nilV 1 0)) 1 (stL (s0' z)) .normal (frL' (fo8 11 nilV 1)) 1 (stL (s0' z)) := by
  have e : (oSt (ev8 [(0, false), (1, false), (2, false), (3, false)] [] 1 (sq2 (sq2 in8)) (fe8 11 nilV 1 0) (s0' z))).ok = okT [(!eqb (z 3) 0) == false, (!eqb (z 3) 0) == false, (!eqb (z 3) 0) == false, (!eqb (z 3) 0) == false] true := by kernel_rfl
  exact tc8 (φ := [(0, false), (1, false), (2, false), (3, false)]) (nils := []) (by kernel_rfl) (e.trans (by rw [h]; rfl)) ⟨by kernel_rfl, by kernel_rfl, by kernel_rfl, by kernel_rfl, trivial⟩ (by kernel_rfl) ⟨by kernel_rfl, trivial⟩
theorem nilR11_1 (z : Nat → Int) (hLe : resL z 11 = []) : TC Try.prog 68 o8 (frL' (fo8 11 nilV 1)) 1 (stL (s0' z)) .normal (frL' (fo8 11 nilV 2)) 1 (stL (s0' z)) := by
  rw [o8_eq]
  cases hz : eqb (z 3) 0 with
  | false => exact TC.seq (nilA1 z 11 ) (TC.seq (TC.block (TC.seq (nilB1 z 11 ) (TC.seq (nilI1 z 11) (nilD11_1_true_0 z (by rw [hz]; rfl)))) (.inl rfl)) (nilE1 z 11 ))
  | true => exact TC.seq (nilA1 z 11 ) (TC.seq (TC.block (TC.seq (nilB1 z 11 ) (TC.seq (nilI1 z 11) (nilD11_1_false_0 z (by rw [hz]; rfl)))) (.inl rfl)) (nilE1 z 11 ))
theorem nilD11_2_true_0 (z : Nat → Int) (h : (!eqb (z 5) 0) = true) : TC Try.prog 68 (sq2 (sq2 in8)) (frL' (fe8 11 nilV 2 0)) 1 (stL (s0' z)) .normal (frL' (fo8 11 nilV 2)) 1 (stL (s0' z)) := by
  have e : (oSt (ev8 [(0, true), (1, true), (2, true), (3, true)] [] 1 (sq2 (sq2 in8)) (fe8 11 nilV 2 0) (s0' z))).ok = okT [(!eqb (z 5) 0) == true, (!eqb (z 5) 0) == true, (!eqb (z 5) 0) == true, (!eqb (z 5) 0) == true] true := by kernel_rfl
  exact tc8 (φ := [(0, true), (1, true), (2, true), (3, true)]) (nils := []) (by kernel_rfl) (e.trans (by rw [h]; rfl)) ⟨by kernel_rfl, by kernel_rfl, by kernel_rfl, by kernel_rfl, trivial⟩ (by kernel_rfl) ⟨by kernel_rfl, trivial⟩
theorem nilD11_2_false_0 (z : Nat → Int) (h : (!eqb (z 5) 0) = false) : TC Try.prog 68 (sq2 (sq2 in8)) (frL' (fe8 11 nilV 2 0)) 1 (stL (s0' z)) .normal (frL' (fo8 11 nilV 2)) 1 (stL (s0' z)) := by
  have e : (oSt (ev8 [(0, false), (1, false), (2, false), (3, false)] [] 1 (sq2 (sq2 in8)) (fe8 11 nilV 2 0) (s0' z))).ok = okT [(!eqb (z 5) 0) == false, (!eqb (z 5) 0) == false, (!eqb (z 5) 0) == false, (!eqb (z 5) 0) == false] true := by kernel_rfl
  exact tc8 (φ := [(0, false), (1, false), (2, false), (3, false)]) (nils := []) (by kernel_rfl) (e.trans (by rw [h]; rfl)) ⟨by kernel_rfl, by kernel_rfl, by kernel_rfl, by kernel_rfl, trivial⟩ (by kernel_rfl) ⟨by kernel_rfl, trivial⟩
theorem nilR11_2 (z : Nat → Int) (hLe : resL z 11 = []) : TC Try.prog 68 o8 (frL' (fo8 11 nilV 2)) 1 (stL (s0' z)) .normal (frL' (fo8 11 nilV 3)) 1 (stL (s0' z)) := by
  rw [o8_eq]
  cases hz : eqb (z 5) 0 with
  | false => exact TC.seq (nilA2 z 11 ) (TC.seq (TC.block (TC.seq (nilB2 z 11 ) (TC.seq (nilI2 z 11) (nilD11_2_true_0 z (by rw [hz]; rfl)))) (.inl rfl)) (nilE2 z 11 ))
  | true => exact TC.seq (nilA2 z 11 ) (TC.seq (TC.block (TC.seq (nilB2 z 11 ) (TC.seq (nilI2 z 11) (nilD11_2_false_0 z (by rw [hz]; rfl)))) (.inl rfl)) (nilE2 z 11 ))
theorem nilD11_3_true_0 (z : Nat → Int) (h : (!eqb (z 7) 0) = true) : TC Try.prog 68 (sq2 (sq2 in8)) (frL' (fe8 11 nilV 3 0)) 1 (stL (s0' z)) .normal (frL' (fo8 11 nilV 3)) 1 (stL (s0' z)) := by
  have e : (oSt (ev8 [(0, true), (1, true), (2, true), (3, true)] [] 1 (sq2 (sq2 in8)) (fe8 11 nilV 3 0) (s0' z))).ok = okT [(!eqb (z 7) 0) == true, (!eqb (z 7) 0) == true, (!eqb (z 7) 0) == true, (!eqb (z 7) 0) == true] true := by kernel_rfl
  exact tc8 (φ := [(0, true), (1, true), (2, true), (3, true)]) (nils := []) (by kernel_rfl) (e.trans (by rw [h]; rfl)) ⟨by kernel_rfl, by kernel_rfl, by kernel_rfl, by kernel_rfl, trivial⟩ (by kernel_rfl) ⟨by kernel_rfl, trivial⟩
theorem nilD11_3_false_0 (z : Nat → Int) (h : (!eqb (z 7) 0) = false) : TC Try.prog 68 (sq2 (sq2 in8)) (frL' (fe8 11 nilV 3 0)) 1 (stL (s0' z)) .normal (frL' (fo8 11 nilV 3)) 1 (stL (s0' z)) := by
  have e : (oSt (ev8 [(0, false), (1, false), (2, false), (3, false)] [] 1 (sq2 (sq2 in8)) (fe8 11 nilV 3 0) (s0' z))).ok = okT [(!eqb (z 7) 0) == false, (!eqb (z 7) 0) == false, (!eqb (z 7) 0) == false, (!eqb (z 7) 0) == false] true := by kernel_rfl
  exact tc8 (φ := [(0, false), (1, false), (2, false), (3, false)]) (nils := []) (by kernel_rfl) (e.trans (by rw [h]; rfl)) ⟨by kernel_rfl, by kernel_rfl, by kernel_rfl, by kernel_rfl, trivial⟩ (by kernel_rfl) ⟨by kernel_rfl, trivial⟩
theorem nilR11_3 (z : Nat → Int) (hLe : resL z 11 = []) : TC Try.prog 68 o8 (frL' (fo8 11 nilV 3)) 1 (stL (s0' z)) .normal (frL' (fo8 11 nilV 4)) 1 (stL (s0' z)) := by
  rw [o8_eq]
  cases hz : eqb (z 7) 0 with
  | false => exact TC.seq (nilA3 z 11 ) (TC.seq (TC.block (TC.seq (nilB3 z 11 ) (TC.seq (nilI3 z 11) (nilD11_3_true_0 z (by rw [hz]; rfl)))) (.inl rfl)) (nilE3 z 11 ))
  | true => exact TC.seq (nilA3 z 11 ) (TC.seq (TC.block (TC.seq (nilB3 z 11 ) (TC.seq (nilI3 z 11) (nilD11_3_false_0 z (by rw [hz]; rfl)))) (.inl rfl)) (nilE3 z 11 ))
theorem nilD11_4_false_0 (z : Nat → Int) (h : (!eqb (z 9) 0) = false) : TC Try.prog 68 (sq2 (sq2 in8)) (frL' (fe8 11 nilV 4 0)) 1 (stL (s0' z)) .normal (frL' (fo8 11 nilV 4)) 1 (stL (s0' z)) := by
  have e : (oSt (ev8 [(0, false), (1, false), (2, false), (3, false)] [] 1 (sq2 (sq2 in8)) (fe8 11 nilV 4 0) (s0' z))).ok = okT [(!eqb (z 9) 0) == false, (!eqb (z 9) 0) == false, (!eqb (z 9) 0) == false, (!eqb (z 9) 0) == false] true := by kernel_rfl
  exact tc8 (φ := [(0, false), (1, false), (2, false), (3, false)]) (nils := []) (by kernel_rfl) (e.trans (by rw [h]; rfl)) ⟨by kernel_rfl, by kernel_rfl, by kernel_rfl, by kernel_rfl, trivial⟩ (by kernel_rfl) ⟨by kernel_rfl, trivial⟩
theorem nilR11_4 (z : Nat → Int) (hLe : resL z 11 = []) : TC Try.prog 68 o8 (frL' (fo8 11 nilV 4)) 1 (stL (s0' z)) .normal (frL' (fo8 11 nilV 5)) 1 (stL (s0' z)) := by
  rw [o8_eq]
  have hr := c11_4 z
  rw [hLe] at hr
  cases hz : eqb (z 9) 0 with
  | false => exact absurd (hr.2 hz) (by simp [ucnt])
  | true => exact TC.seq (nilA4 z 11 ) (TC.seq (TC.block (TC.seq (nilB4 z 11 ) (TC.seq (nilI4 z 11) (nilD11_4_false_0 z (by rw [hz]; rfl)))) (.inl rfl)) (nilE4 z 11 ))
theorem nilD11_5_false_0 (z : Nat → Int) (h : (!eqb (z 11) 0) = false) : TC Try.prog 68 (sq2 (sq2 in8)) (frL' (fe8 11 nilV 5 0)) 1 (stL (s0' z)) .normal (frL' (fo8 11 nilV 5)) 1 (stL (s0' z)) := by
  have e : (oSt (ev8 [(0, false), (1, false), (2, false), (3, false)] [] 1 (sq2 (sq2 in8)) (fe8 11 nilV 5 0) (s0' z))).ok = okT [(!eqb (z 11) 0) == false, (!eqb (z 11) 0) == false, (!eqb (z 11) 0) == false, (!eqb (z 11) 0) == false] true := by kernel_rfl
  exact tc8 (φ := [(0, false), (1, false), (2, false), (3, false)]) (nils := []) (by kernel_rfl) (e.trans (by rw [h]; rfl)) ⟨by kernel_rfl, by kernel_rfl, by kernel_rfl, by kernel_rfl, trivial⟩ (by kernel_rfl) ⟨by kernel_rfl, trivial⟩
theorem nilR11_5 (z : Nat → Int) (hLe : resL z 11 = []) : TC Try.prog 68 o8 (frL' (fo8 11 nilV 5)) 1 (stL (s0' z)) .normal (frL' (fo8 11 nilV 6)) 1 (stL (s0' z)) := by
  rw [o8_eq]
  have hr := c11_5 z
  rw [hLe] at hr
  cases hz : eqb (z 11) 0 with
  | false => exact absurd (hr.2 hz) (by simp [ucnt])
  | true => exact TC.seq (nilA5 z 11 ) (TC.seq (TC.block (TC.seq (nilB5 z 11 ) (TC.seq (nilI5 z 11) (nilD11_5_false_0 z (by rw [hz]; rfl)))) (.inl rfl)) (nilE5 z 11 ))
theorem nilD11_6_false_0 (z : Nat → Int) (h : (!eqb (z 13) 0) = false) : TC Try.prog 68 (sq2 (sq2 in8)) (frL' (fe8 11 nilV 6 0)) 1 (stL (s0' z)) .normal (frL' (fo8 11 nilV 6)) 1 (stL (s0' z)) := by
  have e : (oSt (ev8 [(0, false), (1, false), (2, false), (3, false)] [] 1 (sq2 (sq2 in8)) (fe8 11 nilV 6 0) (s0' z))).ok = okT [(!eqb (z 13) 0) == false, (!eqb (z 13) 0) == false, (!eqb (z 13) 0) == false, (!eqb (z 13) 0) == false] true := by kernel_rfl
  exact tc8 (φ := [(0, false), (1, false), (2, false), (3, false)]) (nils := []) (by kernel_rfl) (e.trans (by rw [h]; rfl)) ⟨by kernel_rfl, by kernel_rfl, by kernel_rfl, by kernel_rfl, trivial⟩ (by kernel_rfl) ⟨by kernel_rfl, trivial⟩
theorem nilR11_6 (z : Nat → Int) (hLe : resL z 11 = []) : TC Try.prog 68 o8 (frL' (fo8 11 nilV 6)) 1 (stL (s0' z)) .normal (frL' (fo8 11 nilV 7)) 1 (stL (s0' z)) := by
  rw [o8_eq]
  have hr := c11_6 z
  rw [hLe] at hr
  cases hz : eqb (z 13) 0 with
  | false => exact absurd (hr.2 hz) (by simp [ucnt])
  | true => exact TC.seq (nilA6 z 11 ) (TC.seq (TC.block (TC.seq (nilB6 z 11 ) (TC.seq (nilI6 z 11) (nilD11_6_false_0 z (by rw [hz]; rfl)))) (.inl rfl)) (nilE6 z 11 ))
theorem nilD11_7_false_0 (z : Nat → Int) (h : (!eqb (z 15) 0) = false) : TC Try.prog 68 (sq2 (sq2 in8)) (frL' (fe8 11 nilV 7 0)) 1 (stL (s0' z)) .normal (frL' (fo8 11 nilV 7)) 1 (stL (s0' z)) := by
  have e : (oSt (ev8 [(0, false), (1, false), (2, false), (3, false)] [] 1 (sq2 (sq2 in8)) (fe8 11 nilV 7 0) (s0' z))).ok = okT [(!eqb (z 15) 0) == false, (!eqb (z 15) 0) == false, (!eqb (z 15) 0) == false, (!eqb (z 15) 0) == false] true := by kernel_rfl
  exact tc8 (φ := [(0, false), (1, false), (2, false), (3, false)]) (nils := []) (by kernel_rfl) (e.trans (by rw [h]; rfl)) ⟨by kernel_rfl, by kernel_rfl, by kernel_rfl, by kernel_rfl, trivial⟩ (by kernel_rfl) ⟨by kernel_rfl, trivial⟩
theorem nilR11_7 (z : Nat → Int) (hLe : resL z 11 = []) : TC Try.prog 68 o8 (frL' (fo8 11 nilV 7)) 1 (stL (s0' z)) .normal (frL' (fo8 11 nilV 8)) 1 (stL (s0' z)) := by
  rw [o8_eq]
  have hr := c11_7 z
  rw [hLe] at hr
  cases hz : eqb (z 15) 0 with
  | false => exact absurd (hr.2 hz) (by simp [ucnt])
  | true => exact TC.seq (nilA7 z 11 ) (TC.seq (TC.block (TC.seq (nilB7 z 11 ) (TC.seq (nilI7 z 11) (nilD11_7_false_0 z (by rw [hz]; rfl)))) (.inl rfl)) (nilE7 z 11 ))
theorem nilW11 (z : Nat → Int) (hLe : resL z 11 = []) : TC Try.prog 68 (.seq (.seq (sq1 (sq1 (sq2 out8))) (.block 0 (.loop o8))) (sq2 (sq2 out8))) (frL' [(1, .sc (.int .i64 11)), (2, .ptr 0 0), (5, nilV)]) 1 (stL (s0' z)) .ret (frL' [(4, .sc (.bool true))]) 1 (stL (s0' z)) :=
  TC.seq (TC.seq (nilS z 11 ) (TC.block (TC.loop (k := 9) (TR.more (nilR11_0 z hLe) (TR.more (nilR11_1 z hLe) (TR.more (nilR11_2 z hLe) (TR.more (nilR11_3 z hLe) (TR.more (nilR11_4 z hLe) (TR.more (nilR11_5 z hLe) (TR.more (nilR11_6 z hLe) (TR.more (nilR11_7 z hLe) (TR.out (nilX z 11 ) (by simp))))))))))) (.inr rfl))) (nilZ z )
theorem nilD12_0_true_0 (z : Nat → Int) (h : (!eqb (z 1) 0) = true) : TC Try.prog 68 (sq2 (sq2 in8)) (frL' (fe8 12 nilV 0 0)) 1 (stL (s0' z)) .normal (frL' (fo8 12 nilV 0)) 1 (stL (s0' z)) := by
  have e : (oSt (ev8 [(0, true), (1, true), (2, true), (3, true)] [] 1 (sq2 (sq2 in8)) (fe8 12 nilV 0 0) (s0' z))).ok = okT [(!eqb (z 1) 0) == true, (!eqb (z 1) 0) == true, (!eqb (z 1) 0) == true, (!eqb (z 1) 0) == true] true := by kernel_rfl
  exact tc8 (φ := [(0, true), (1, true), (2, true), (3, true)]) (nils := []) (by kernel_rfl) (e.trans (by rw [h]; rfl)) ⟨by kernel_rfl, by kernel_rfl, by kernel_rfl, by kernel_rfl, trivial⟩ (by kernel_rfl) ⟨by kernel_rfl, trivial⟩
theorem nilD12_0_false_0 (z : Nat → Int) (h : (!eqb (z 1) 0) = false) : TC Try.prog 68 (sq2 (sq2 in8)) (frL' (fe8 12 nilV 0 0)) 1 (stL (s0' z)) .normal (frL' (fo8 12 nilV 0)) 1 (stL (s0' z)) := by
  have e : (oSt (ev8 [(0, false), (1, false), (2, false), (3, false)] [] 1 (sq2 (sq2 in8)) (fe8 12 nilV 0 0) (s0' z))).ok = okT [(!eqb (z 1) 0) == false, (!eqb (z 1) 0) == false, (!eqb (z 1) 0) == false, (!eqb (z 1) 0) == false] true := by kernel_rfl
  exact tc8 (φ := [(0, false), (1, false), (2, false), (3, false)]) (nils := []) (by kernel_rfl) (e.trans (by rw [h]; rfl)) ⟨by kernel_rfl, by kernel_rfl, by kernel_rfl, by kernel_rfl, trivial⟩ (by kernel_rfl) ⟨by kernel_rfl, trivial⟩
theorem nilR12_0 (z : Nat → Int) (hLe : resL z 12 = []) : TC Try.prog 68 o8 (frL' (fo8 12 nilV 0)) 1 (stL (s0' z)) .normal (frL' (fo8 12 nilV 1)) 1 (stL (s0' z)) := by
  rw [o8_eq]
  cases hz : eqb (z 1) 0 with
  | false => exact TC.seq (nilA0 z 12 ) (TC.seq (TC.block (TC.seq (nilB0 z 12 ) (TC.seq (nilI0 z 12) (nilD12_0_true_0 z (by rw [hz]; rfl)))) (.inl rfl)) (nilE0 z 12 ))
  | true => exact TC.seq (nilA0 z 12 ) (TC.seq (TC.block (TC.seq (nilB0 z 12 ) (TC.seq (nilI0 z 12) (nilD12_0_false_0 z (by rw [hz]; rfl)))) (.inl rfl)) (nilE0 z 12 ))
theorem nilD12_1_true_0 (z : Nat → Int) (h : (!eqb (z 3) 0) = true) : TC Try.prog 68 (sq2 (sq2 in8)) (frL' (fe8 12 nilV 1 0)) 1 (stL (s0' z)) .normal (frL' (fo8 12 nilV 1)) 1 (stL (s0' z)) := by
  have e : (oSt (ev8 [(0, true), (1, true), (2, true), (3, true)] [] 1 (sq2 (sq2 in8)) (fe8 12 nilV 1 0) (s0' z))).ok = okT [(!eqb (z 3) 0) == true, (!eqb (z 3) 0) == true, (!eqb (z 3) 0) == true, (!eqb (z 3) 0) == true] true := by kernel_rfl
  exact tc8 (φ := [(0, true), (1, true), (2, true), (3, true)]) (nils := []) (by kernel_rfl) (e.trans (by rw [h]; rfl)) ⟨by kernel_rfl, by kernel_rfl, by kernel_rfl, by kernel_rfl, trivial⟩ (by kernel_rfl) ⟨by kernel_rfl, trivial⟩
theorem nilD12_1_false_0 (z : Nat → Int) (h : (!eqb (z 3) 0) = false) : TC Try.prog 68 (sq2 (sq2 in8)) (frL' (fe8 12 nilV 1 0)) 1 (stL (s0' z)) .normal (frL' (fo8 12 nilV 1)) 1 (stL (s0' z)) := by
  have e : (oSt (ev8 [(0, false), (1, false), (2, false), (3, false)] [] 1 (sq2 (sq2 in8)) (fe8 12 nilV 1 0) (s0' z))).ok = okT [(!eqb (z 3) 0) == false, (!eqb (z 3) 0) == false, (!eqb (z 3) 0) == false, (!eqb (z 3) 0) == false] true := by kernel_rfl
  exact tc8 (φ := [(0, false), (1, false), (2, false), (3, false)]) (nils := []) (by kernel_rfl) (e.trans (by rw [h]; rfl)) ⟨by kernel_rfl, by kernel_rfl, by kernel_rfl, by kernel_rfl, trivial⟩ (by kernel_rfl) ⟨by kernel_rfl, trivial⟩
theorem nilR12_1 (z : Nat → Int) (hLe : resL z 12 = []) : TC Try.prog 68 o8 (frL' (fo8 12 nilV 1)) 1 (stL (s0' z)) .normal (frL' (fo8 12 nilV 2)) 1 (stL (s0' z)) := by
  rw [o8_eq]
  cases hz : eqb (z 3) 0 with
  | false => exact TC.seq (nilA1 z 12 ) (TC.seq (TC.block (TC.seq (nilB1 z 12 ) (TC.seq (nilI1 z 12) (nilD12_1_true_0 z (by rw [hz]; rfl)))) (.inl rfl)) (nilE1 z 12 ))
  | true => exact TC.seq (nilA1 z 12 ) (TC.seq (TC.block (TC.seq (nilB1 z 12 ) (TC.seq (nilI1 z 12) (nilD12_1_false_0 z (by rw [hz]; rfl)))) (.inl rfl)) (nilE1 z 12 ))
theorem nilD12_2_true_0 (z : Nat → Int) (h : (!eqb (z 5) 0) = true) : TC Try.prog 68 (sq2 (sq2 in8)) (frL' (fe8 12 nilV 2 0)) 1 (stL (s0' z)) .normal (frL' (fo8 12 nilV 2)) 1 (stL (s0' z)) := by
  have e : (oSt (ev8 [(0, true), (1, true), (2, true), (3, true)] [] 1 (sq2 (sq2 in8)) (fe8 12 nilV 2 0) (s0' z))).ok = okT [(!eqb (z 5) 0) == true, (!eqb (z 5) 0) == true, (!eqb (z 5) 0) == true, (!eqb (z 5) 0) == true] true := by kernel_rfl
  exact tc8 (φ := [(0, true), (1, true), (2, true), (3, true)]) (nils := []) (by kernel_rfl) (e.trans (by rw [h]; rfl)) ⟨by kernel_rfl, by kernel_rfl, by kernel_rfl, by kernel_rfl, trivial⟩ (by kernel_rfl) ⟨by kernel_rfl, trivial⟩
theorem nilD12_2_false_0 (z : Nat → Int) (h : (!eqb (z 5) 0) = false) : TC Try.prog 68 (sq2 (sq2 in8)) (frL' (fe8 12 nilV 2 0)) 1 (stL (s0' z)) .normal (frL' (fo8 12 nilV 2)) 1 (stL (s0' z)) := by
  have e : (oSt (ev8 [(0, false), (1, false), (2, false), (3, false)] [] 1 (sq2 (sq2 in8)) (fe8 12 nilV 2 0) (s0' z))).ok = okT [(!eqb (z 5) 0) == false, (!eqb (z 5) 0) == false, (!eqb (z 5) 0) == false, (!eqb (z 5) 0) == false] true := by kernel_rfl
  exact tc8 (φ := [(0, false), (1, false), (2, false), (3, false)]) (nils := []) (by kernel_rfl) (e.trans (by rw [h]; rfl)) ⟨by kernel_rfl, by kernel_rfl, by kernel_rfl, by kernel_rfl, trivial⟩ (by kernel_rfl) ⟨by kernel_rfl, trivial⟩
theorem nilR12_2 (z : Nat → Int) (hLe : resL z 12 = []) : TC Try.prog 68 o8 (frL' (fo8 12 nilV 2)) 1 (stL (s0' z)) .normal (frL' (fo8 12 nilV 3)) 1 (stL (s0' z)) := by
  rw [o8_eq]
  cases hz : eqb (z 5) 0 with
  | false => exact TC.seq (nilA2 z 12 ) (TC.seq (TC.block (TC.seq (nilB2 z 12 ) (TC.seq (nilI2 z 12) (nilD12_2_true_0 z (by rw [hz]; rfl)))) (.inl rfl)) (nilE2 z 12 ))
  | true => exact TC.seq (nilA2 z 12 ) (TC.seq (TC.block (TC.seq (nilB2 z 12 ) (TC.seq (nilI2 z 12) (nilD12_2_false_0 z (by rw [hz]; rfl)))) (.inl rfl)) (nilE2 z 12 ))
theorem nilD12_3_true_0 (z : Nat → Int) (h : (!eqb (z 7) 0) = true) : TC Try.prog 68 (sq2 (sq2 in8)) (frL' (fe8 12 nilV 3 0)) 1 (stL (s0' z)) .normal (frL' (fo8 12 nilV 3)) 1 (stL (s0' z)) := by
  have e : (oSt (ev8 [(0, true), (1, true), (2, true), (3, true)] [] 1 (sq2 (sq2 in8)) (fe8 12 nilV 3 0) (s0' z))).ok = okT [(!eqb (z 7) 0) == true, (!eqb (z 7) 0) == true, (!eqb (z 7) 0) == true, (!eqb (z 7) 0) == true] true := by kernel_rfl
  exact tc8 (φ := [(0, true), (1, true), (2, true), (3, true)]) (nils := []) (by kernel_rfl) (e.trans (by rw [h]; rfl)) ⟨by kernel_rfl, by kernel_rfl, by kernel_rfl, by kernel_rfl, trivial⟩ (by kernel_rfl) ⟨by kernel_rfl, trivial⟩
theorem nilD12_3_false_0 (z : Nat → Int) (h : (!eqb (z 7) 0) = false) : TC Try.prog 68 (sq2 (sq2 in8)) (frL' (fe8 12 nilV 3 0)) 1 (stL (s0' z)) .normal (frL' (fo8 12 nilV 3)) 1 (stL (s0' z)) := by
  have e : (oSt (ev8 [(0, false), (1, false), (2, false), (3, false)] [] 1 (sq2 (sq2 in8)) (fe8 12 nilV 3 0) (s0' z))).ok = okT [(!eqb (z 7) 0) == false, (!eqb (z 7) 0) == false, (!eqb (z 7) 0) == false, (!eqb (z 7) 0) == false] true := by kernel_rfl
  exact tc8 (φ := [(0, false), (1, false), (2, false), (3, false)]) (nils := []) (by kernel_rfl) (e.trans (by rw [h]; rfl)) ⟨by kernel_rfl, by kernel_rfl, by kernel_rfl, by kernel_rfl, trivial⟩ (by kernel_rfl) ⟨by kernel_rfl, trivial⟩
theorem nilR12_3 (z : Nat → Int) (hLe : resL z 12 = []) : TC Try.prog 68 o8 (frL' (fo8 12 nilV 3)) 1 (stL (s0' z)) .normal (frL' (fo8 12 nilV 4)) 1 (stL (s0' z)) := by
  rw [o8_eq]
  cases hz : eqb (z 7) 0 with
  | false => exact TC.seq (nilA3 z 12 ) (TC.seq (TC.block (TC.seq (nilB3 z 12 ) (TC.seq (nilI3 z 12) (nilD12_3_true_0 z (by rw [hz]; rfl)))) (.inl rfl)) (nilE3 z 12 ))
  | true => exact TC.seq (nilA3 z 12 ) (TC.seq (TC.block (TC.seq (nilB3 z 12 ) (TC.seq (nilI3 z 12) (nilD12_3_false_0 z (by rw [hz]; rfl)))) (.inl rfl)) (nilE3 z 12 ))
theorem nilD12_4_true_0 (z : Nat → Int) (h : (!eqb (z 9) 0) = true) : TC Try.prog 68 (sq2 (sq2 in8)) (frL' (fe8 12 nilV 4 0)) 1 (stL (s0' z)) .normal (frL' (fo8 12 nilV 4)) 1 (stL (s0' z)) := by
  have e : (oSt (ev8 [(0, true), (1, true), (2, true), (3, true)] [] 1 (sq2 (sq2 in8)) (fe8 12 nilV 4 0) (s0' z))).ok = okT [(!eqb (z 9) 0) == true, (!eqb (z 9) 0) == true, (!eqb (z 9) 0) == true, (!eqb (z 9) 0) == true] true := by kernel_rfl
  exact tc8 (φ := [(0, true), (1, true), (2, true), (3, true)]) (nils := []) (by kernel_rfl) (e.trans (by rw [h]; rfl)) ⟨by kernel_rfl, by kernel_rfl, by kernel_rfl, by kernel_rfl, trivial⟩ (by kernel_rfl) ⟨by kernel_rfl, trivial⟩
theorem nilD12_4_false_0 (z : Nat → Int) (h : (!eqb (z 9) 0) = false) : TC Try.prog 68 (sq2 (sq2 in8)) (frL' (fe8 12 nilV 4 0)) 1 (stL (s0' z)) .normal (frL' (fo8 12 nilV 4)) 1 (stL (s0' z)) := by
  have e : (oSt (ev8 [(0, false), (1, false), (2, false), (3, false)] [] 1 (sq2 (sq2 in8)) (fe8 12 nilV 4 0) (s0' z))).ok = okT [(!eqb (z 9) 0) == false, (!eqb (z 9) 0) == false, (!eqb (z 9) 0) == false, (!eqb (z 9) 0) == false] true := by kernel_rfl
  exact tc8 (φ := [(0, false), (1, false), (2, false), (3, false)]) (nils := []) (by kernel_rfl) (e.trans (by rw [h]; rfl)) ⟨by kernel_rfl, by kernel_rfl, by kernel_rfl, by kernel_rfl, trivial⟩ (by kernel_rfl) ⟨by kernel_rfl, trivial⟩
theorem nilR12_4 (z : Nat → Int) (hLe : resL z 12 = []) : TC Try.prog 68 o8 (frL' (fo8 12 nilV 4)) 1 (stL (s0' z)) .normal (frL' (fo8 12 nilV 5)) 1 (stL (s0' z)) := by
  rw [o8_eq]
  cases hz : eqb (z 9) 0 with
  | false => exact TC.seq (nilA4 z 12 ) (TC.seq (TC.block (TC.seq (nilB4 z 12 ) (TC.seq (nilI4 z 12) (nilD12_4_true_0 z (by rw [hz]; rfl)))) (.inl rfl)) (nilE4 z 12 ))
  | true => exact TC.seq (nilA4 z 12 ) (TC.seq (TC.block (TC.seq (nilB4 z 12 ) (TC.seq (nilI4 z 12) (nilD12_4_false_0 z (by rw [hz]; rfl)))) (.inl rfl)) (nilE4 z 12 ))
theorem nilD12_5_true_0 (z : Nat → Int) (h : (!eqb (z 11) 0) = true) : TC Try.prog 68 (sq2 (sq2 in8)) (frL' (fe8 12 nilV 5 0)) 1 (stL (s0' z)) .normal (frL' (fo8 12 nilV 5)) 1 (stL (s0' z)) := by
  have e : (oSt (ev8 [(0, true), (1, true), (2, true), (3, true)] [] 1 (sq2 (sq2 in8)) (fe8 12 nilV 5 0) (s0' z))).ok = okT [(!eqb (z 11) 0) == true, (!eqb (z 11) 0) == true, (!eqb (z 11) 0) == true, (!eqb (z 11) 0) == true] true := by kernel_rfl
  exact tc8 (φ := [(0, true), (1, true), (2, true), (3, true)]) (nils := []) (by kernel_rfl) (e.trans (by rw [h]; rfl)) ⟨by kernel_rfl, by kernel_rfl, by kernel_rfl, by kernel_rfl, trivial⟩ (by kernel_rfl) ⟨by kernel_rfl, trivial⟩
theorem nilD12_5_false_0 (z : Nat → Int) (h : (!eqb (z 11) 0) = false) : TC Try.prog 68 (sq2 (sq2 in8)) (frL' (fe8 12 nilV 5 0)) 1 (stL (s0' z)) .normal (frL' (fo8 12 nilV 5)) 1 (stL (s0' z)) := by
  have e : (oSt (ev8 [(0, false), (1, false), (2, false), (3, false)] [] 1 (sq2 (sq2 in8)) (fe8 12 nilV 5 0) (s0' z))).ok = okT [(!eqb (z 11) 0) == false, (!eqb (z 11) 0) == false, (!eqb (z 11) 0) == false, (!eqb (z 11) 0) == false] true := by kernel_rfl
  exact tc8 (φ := [(0, false), (1, false), (2, false), (3, false)]) (nils := []) (by kernel_rfl) (e.trans (by rw [h]; rfl)) ⟨by kernel_rfl, by kernel_rfl, by kernel_rfl, by kernel_rfl, trivial⟩ (by kernel_rfl) ⟨by kernel_rfl, trivial⟩
theorem nilR12_5 (z : Nat → Int) (hLe : resL z 12 = []) : TC Try.prog 68 o8 (frL' (fo8 12 nilV 5)) 1 (stL (s0' z)) .normal (frL' (fo8 12 nilV 6)) 1 (stL (s0' z)) := by
  rw [o8_eq]
  cases hz : eqb (z 11) 0 with
  | false => exact TC.seq (nilA5 z 12 ) (TC.seq (TC.block (TC.seq (nilB5 z 12 ) (TC.seq (nilI5 z 12) (nilD12_5_true_0 z (by rw [hz]; rfl)))) (.inl rfl)) (nilE5 z 12 ))
  | true => exact TC.seq (nilA5 z 12 ) (TC.seq (TC.block (TC.seq (nilB5 z 12 ) (TC.seq (nilI5 z 12) (nilD12_5_false_0 z (by rw [hz]; rfl)))) (.inl rfl)) (nilE5 z 12 ))
theorem nilD12_6_false_0 (z : Nat → Int) (h : (!eqb (z 13) 0) = false) : TC Try.prog 68 (sq2 (sq2 in8)) (frL' (fe8 12 nilV 6 0)) 1 (stL (s0' z)) .normal (frL' (fo8 12 nilV 6)) 1 (stL (s0' z)) := by
  have e : (oSt (ev8 [(0, false), (1, false), (2, false), (3, false)] [] 1 (sq2 (sq2 in8)) (fe8 12 nilV 6 0) (s0' z))).ok = okT [(!eqb (z 13) 0) == false, (!eqb (z 13) 0) == false, (!eqb (z 13) 0) == false, (!eqb (z 13) 0) == false] true := by kernel_rfl
  exact tc8 (φ := [(0, false), (1, false), (2, false), (3, false)]) (nils := []) (by kernel_rfl) (e.trans (by rw [h]; rfl)) ⟨by kernel_rfl, by kernel_rfl, by kernel_rfl, by kernel_rfl, trivial⟩ (by kernel_rfl) ⟨by kernel_rfl, trivial⟩
theorem nilR12_6 (z : Nat → Int) (hLe : resL z 12 = []) : TC Try.prog 68 o8 (frL' (fo8 12 nilV 6)) 1 (stL (s0' z)) .normal (frL' (fo8 12 nilV 7)) 1 (stL (s0' z)) := by
  rw [o8_eq]
  have hr := c12_6 z
  rw [hLe] at hr
  cases hz : eqb (z 13) 0 with
  | false => exact absurd (hr.2 hz) (by simp [ucnt])
  | true => exact TC.seq (nilA6 z 12 ) (TC.seq (TC.block (TC.seq (nilB6 z 12 ) (TC.seq (nilI6 z 12) (nilD12_6_false_0 z (by rw [hz]; rfl)))) (.inl rfl)) (nilE6 z 12 ))
theorem nilD12_7_true_0 (z : Nat → Int) (h : (!eqb (z 15) 0) = true) : TC Try.prog 68 (sq2 (sq2 in8)) (frL' (fe8 12 nilV 7 0)) 1 (stL (s0' z)) .normal (frL' (fo8 12 nilV 7)) 1 (stL (s0' z)) := by
  have e : (oSt (ev8 [(0, true), (1, true), (2, true), (3, true)] [] 1 (sq2 (sq2 in8)) (fe8 12 nilV 7 0) (s0' z))).ok = okT [(!eqb (z 15) 0) == true, (!eqb (z 15) 0) == true, (!eqb (z 15) 0) == true, (!eqb (z 15) 0) == true] true := by kernel_rfl
  exact tc8 (φ := [(0, true), (1, true), (2, true), (3, true)]) (nils := []) (by kernel_rfl) (e.trans (by rw [h]; rfl)) ⟨by kernel_rfl, by kernel_rfl, by kernel_rfl, by kernel_rfl, trivial⟩ (by kernel_rfl) ⟨by kernel_rfl, trivial⟩
theorem nilD12_7_false_0 (z : Nat → Int) (h : (!eqb (z 15) 0) = false) : TC Try.prog 68 (sq2 (sq2 in8)) (frL' (fe8 12 nilV 7 0)) 1 (stL (s0' z)) .normal (frL' (fo8 12 nilV 7)) 1 (stL (s0' z)) := by
  have e : (oSt (ev8 [(0, false), (1, false), (2, false), (3, false)] [] 1 (sq2 (sq2 in8)) (fe8 12 nilV 7 0) (s0' z))).ok = okT [(!eqb (z 15) 0) == false, (!eqb (z 15) 0) == false, (!eqb (z 15) 0) == false, (!eqb (z 15) 0) == false] true := by kernel_rfl
  exact tc8 (φ := [(0, false), (1, false), (2, false), (3, false)]) (nils := []) (by kernel_rfl) (e.trans (by rw [h]; rfl)) ⟨by kernel_rfl, by kernel_rfl, by kernel_rfl, by kernel_rfl, trivial⟩ (by kernel_rfl) ⟨by kernel_rfl, trivial⟩
theorem nilR12_7 (z : Nat → Int) (hLe : resL z 12 = []) : TC Try.prog 68 o8 (frL' (fo8 12 nilV 7)) 1 (stL (s0' z)) .normal (frL' (fo8 12 nilV 8)) 1 (stL (s0' z)) := by
  rw [o8_eq]
  cases hz : eqb (z 15) 0 with
  | false => exact TC.seq (nilA7 z 12 ) (TC.seq (TC.block (TC.seq (nilB7 z 12 ) (TC.seq (nilI7 z 12) (nilD12_7_true_0 z (by rw [hz]; rfl)))) (.inl rfl)) (nilE7 z 12 ))
  | true => exact TC.seq (nilA7 z 12 ) (TC.seq (TC.block (TC.seq (nilB7 z 12 ) (TC.seq (nilI7 z 12) (nilD12_7_false_0 z (by rw [hz]; rfl)))) (.inl rfl)) (nilE7 z 12 ))
theorem nilW12 (z : Nat → Int) (hLe : resL z 12 = []) : TC Try.prog 68 (.seq (.seq (sq1 (sq1 (sq2 out8))) (.block 0 (.loop o8))) (sq2 (sq2 out8))) (frL' [(1, .sc (.int .i64 12)), (2, .ptr 0 0), (5, nilV)]) 1 (stL (s0' z)) .ret (frL' [(4, .sc (.bool true))]) 1 (stL (s0' z)) :=
  TC.seq (TC.seq (nilS z 12 ) (TC.block (TC.loop (k := 9) (TR.more (nilR12_0 z hLe) (TR.more (nilR12_1 z hLe) (TR.more (nilR12_2 z hLe) (TR.more (nilR12_3 z hLe) (TR.more (nilR12_4 z hLe) (TR.more (nilR12_5 z hLe) (TR.more (nilR12_6 z hLe) (TR.more (nilR12_7 z hLe) (TR.out (nilX z 12 ) (by simp))))))))))) (.inr rfl))) (nilZ z )
theorem nilD13_0_true_0 (z : Nat → Int) (h : (!eqb (z 1) 0) = true) : TC Try.prog 68 (sq2 (sq2 in8)) (frL' (fe8 13 nilV 0 0)) 1 (stL (s0' z)) .normal (frL' (fo8 13 nilV 0)) 1 (stL (s0' z)) := by
  have e : (oSt (ev8 [(0, true), (1, true), (2, true), (3, true)] [] 1 (sq2 (sq2 in8)) (fe8 13 nilV 0 0) (s0' z))).ok = okT [(!eqb (z 1) 0) == true, (!eqb (z 1) 0) == true, (!eqb (z 1) 0) == true, (!eqb (z 1) 0) == true] true := by kernel_rfl
  exact tc8 (φ := [(0, true), (1, true), (2, true), (3, true)]) (nils := []) (by kernel_rfl) (e.trans (by rw [h]; rfl)) ⟨by kernel_rfl, by kernel_rfl, by kernel_rfl, by kernel_rfl, trivial⟩ (by kernel_rfl) ⟨by kernel_rfl, trivial⟩
theorem nilD13_0_false_0 (z : Nat → Int) (h : (!eqb (z 1) 0) = false) : TC Try.prog 68 (sq2 (sq2 in8)) (frL' (fe8 13 nilV 0 0)) 1 (stL (s0' z)) .normal (frL' (fo8 13 nilV 0)) 1 (stL (s0' z)) := by
  have e : (oSt (ev8 [(0, false), (1, false), (2, false), (3, false)] [] 1 (sq2 (sq2 in8)) (fe8 13 nilV 0 0) (s0' z))).ok = okT [(!eqb (z 1) 0) == false, (!eqb (z 1) 0) == false, (!eqb (z 1) 0) == false, (!eqb (z 1) 0) == false] true := by kernel_rfl
  exact tc8 (φ := [(0, false), (1, false), (2, false), (3, false)]) (nils := []) (by kernel_rfl) (e.trans (by rw [h]; rfl)) ⟨by kernel_rfl, by kernel_rfl, by kernel_rfl, by kernel_rfl, trivial⟩ (by kernel_rfl) ⟨by kernel_rfl, trivial⟩
theorem nilR13_0 (z : Nat → Int) (hLe : resL z 13 = []) : TC Try.prog 68 o8 (frL' (fo8 13 nilV 0)) 1 (stL (s0' z)) .normal (frL' (fo8 13 nilV 1)) 1 (stL (s0' z)) := by
  rw [o8_eq]
  cases hz : eqb (z 1) 0 with
  | false => exact TC.seq (nilA0 z 13 ) (TC.seq (TC.block (TC.seq (nilB0 z 13 ) (TC.seq (nilI0 z 13) (nilD13_0_true_0 z (by rw [hz]; rfl)))) (.inl rfl)) (nilE0 z 13 ))
  | true => exact TC.seq (nilA0 z 13 ) (TC.seq (TC.block (TC.seq (nilB0 z 13 ) (TC.seq (nilI0 z 13) (nilD13_0_false_0 z (by rw [hz]; rfl)))) (.inl rfl)) (nilE0 z 13 ))
theorem nilD13_1_true_0 (z : Nat → Int) (h : (!eqb (z 3) 0) = true) : TC Try.prog 68 (sq2 (sq2 in8)) (frL' (fe8 13 nilV 1 0)) 1 (stL (s0' z)) .normal (frL' (fo8 13 nilV 1)) 1 (stL (s0' z)) := by
  have e : (oSt (ev8 [(0, true), (1, true), (2, true), (3, true)] [] 1 (sq2 (sq2 in8)) (fe8 13 nilV 1 0) (s0' z))).ok = okT [(!eqb (z 3) 0) == true, (!eqb (z 3) 0) == true, (!eqb (z 3) 0) == true, (!eqb (z 3) 0) == true] true := by kernel_rfl
  exact tc8 (φ := [(0, true), (1, true), (2, true), (3, true)]) (nils := []) (by kernel_rfl) (e.trans (by rw [h]; rfl)) ⟨by kernel_rfl, by kernel_rfl, by kernel_rfl, by kernel_rfl, trivial⟩ (by kernel_rfl) ⟨by kernel_rfl, trivial⟩
theorem nilD13_1_false_0 (z : Nat → Int) (h : (!eqb (z 3) 0) = false) : TC Try.prog 68 (sq2 (sq2 in8)) (frL' (fe8 13 nilV 1 0)) 1 (stL (s0' z)) .normal (frL' (fo8 13 nilV 1)) 1 (stL (s0' z)) := by
  have e : (oSt (ev8 [(0, false), (1, false), (2, false), (3, false)] [] 1 (sq2 (sq2 in8)) (fe8 13 nilV 1 0) (s0' z))).ok = okT [(!eqb (z 3) 0) == false, (!eqb (z 3) 0) == false, (!eqb (z 3) 0) == false, (!eqb (z 3) 0) == false] true := by kernel_rfl
  exact tc8 (φ := [(0, false), (1, false), (2, false), (3, false)]) (nils := []) (by kernel_rfl) (e.trans (by rw [h]; rfl)) ⟨by kernel_rfl, by kernel_rfl, by kernel_rfl, by kernel_rfl, trivial⟩ (by kernel_rfl) ⟨by kernel_rfl, trivial⟩
theorem nilR13_1 (z : Nat → Int) (hLe : resL z 13 = []) : TC Try.prog 68 o8 (frL' (fo8 13 nilV 1)) 1 (stL (s0' z)) .normal (frL' (fo8 13 nilV 2)) 1 (stL (s0' z)) := by
  rw [o8_eq]
  cases hz : eqb (z 3) 0 with
  | false => exact TC.seq (nilA1 z 13 ) (TC.seq (TC.block (TC.seq (nilB1 z 13 ) (TC.seq (nilI1 z 13) (nilD13_1_true_0 z (by rw [hz]; rfl)))) (.inl rfl)) (nilE1 z 13 ))
  | true => exact TC.seq (nilA1 z 13 ) (TC.seq (TC.block (TC.seq (nilB1 z 13 ) (TC.seq (nilI1 z 13) (nilD13_1_false_0 z (by rw [hz]; rfl)))) (.inl rfl)) (nilE1 z 13 ))
theorem nilD13_2_true_0 (z : Nat → Int) (h : (!eqb (z 5) 0) = true) : TC Try.prog 68 (sq2 (sq2 in8)) (frL' (fe8 13 nilV 2 0)) 1 (stL (s0' z)) .normal (frL' (fo8 13 nilV 2)) 1 (stL (s0' z)) := by
  have e : (oSt (ev8 [(0, true), (1, true), (2, true), (3, true)] [] 1 (sq2 (sq2 in8)) (fe8 13 nilV 2 0) (s0' z))).ok = okT [(!eqb (z 5) 0) == true, (!eqb (z 5) 0) == true, (!eqb (z 5) 0) == true, (!eqb (z 5) 0) == true] true := by kernel_rfl
  exact tc8 (φ := [(0, true), (1, true), (2, true), (3, true)]) (nils := []) (by kernel_rfl) (e.trans (by rw [h]; rfl)) ⟨by kernel_rfl, by kernel_rfl, by kernel_rfl, by kernel_rfl, trivial⟩ (by kernel_rfl) ⟨by kernel_rfl, trivial⟩
theorem nilD13_2_false_0 (z : Nat → Int) (h : (!eqb (z 5) 0) = false) : TC Try.prog 68 (sq2 (sq2 in8)) (frL' (fe8 13 nilV 2 0)) 1 (stL (s0' z)) .normal (frL' (fo8 13 nilV 2)) 1 (stL (s0' z)) := by
  have e : (oSt (ev8 [(0, false), (1, false), (2, false), (3, false)] [] 1 (sq2 (sq2 in8)) (fe8 13 nilV 2 0) (s0' z))).ok = okT [(!eqb (z 5) 0) == false, (!eqb (z 5) 0) == false, (!eqb (z 5) 0) == false, (!eqb (z 5) 0) == false] true := by kernel_rfl
  exact tc8 (φ := [(0, false), (1, false), (2, false), (3, false)]) (nils := []) (by kernel_rfl) (e.trans (by rw [h]; rfl)) ⟨by kernel_rfl, by kernel_rfl, by kernel_rfl, by kernel_rfl, trivial⟩ (by kernel_rfl) ⟨by kernel_rfl, trivial⟩
theorem nilR13_2 (z : Nat → Int) (hLe : resL z 13 = []) : TC Try.prog 68 o8 (frL' (fo8 13 nilV 2)) 1 (stL (s0' z)) .normal (frL' (fo8 13 nilV 3)) 1 (stL (s0' z)) := by
  rw [o8_eq]
  cases hz : eqb (z 5) 0 with
  | false => exact TC.seq (nilA2 z 13 ) (TC.seq (TC.block (TC.seq (nilB2 z 13 ) (TC.seq (nilI2 z 13) (nilD13_2_true_0 z (by rw [hz]; rfl)))) (.inl rfl)) (nilE2 z 13 ))
  | true => exact TC.seq (nilA2 z 13 ) (TC.seq (TC.block (TC.seq (nilB2 z 13 ) (TC.seq (nilI2 z 13) (nilD13_2_false_0 z (by rw [hz]; rfl)))) (.inl rfl)) (nilE2 z 13 ))
theorem nilD13_3_true_0 (z : Nat → Int) (h : (!eqb (z 7) 0) = true) : TC Try.prog 68 (sq2 (sq2 in8)) (frL' (fe8 13 nilV 3 0)) 1 (stL (s0' z)) .normal (frL' (fo8 13 nilV 3)) 1 (stL (s0' z)) := by
  have e : (oSt (ev8 [(0, true), (1, true), (2, true), (3, true)] [] 1 (sq2 (sq2 in8)) (fe8 13 nilV 3 0) (s0' z))).ok = okT [(!eqb (z 7) 0) == true, (!eqb (z 7) 0) == true, (!eqb (z 7) 0) == true, (!eqb (z 7) 0) == true] true := by kernel_rfl
  exact tc8 (φ := [(0, true), (1, true), (2, true), (3, true)]) (nils := []) (by kernel_rfl) (e.trans (by rw [h]; rfl)) ⟨by kernel_rfl, by kernel_rfl, by kernel_rfl, by kernel_rfl, trivial⟩ (by kernel_rfl) ⟨by kernel_rfl, trivial⟩
theorem nilD13_3_false_0 (z : Nat → Int) (h : (!eqb (z 7) 0) = false) : TC Try.prog 68 (sq2 (sq2 in8)) (frL' (fe8 13 nilV 3 0)) 1 (stL (s0' z)) .normal (frL' (fo8 13 nilV 3)) 1 (stL (s0' z)) := by
  have e : (oSt (ev8 [(0, false), (1, false), (2, false), (3, false)] [] 1 (sq2 (sq2 in8)) (fe8 13 nilV 3 0) (s0' z))).ok = okT [(!eqb (z 7) 0) == false, (!eqb (z 7) 0) == false, (!eqb (z 7) 0) == false, (!eqb (z 7) 0) == false] true := by kernel_rfl
  exact tc8 (φ := [(0, false), (1, false), (2, false), (3, false)]) (nils := []) (by kernel_rfl) (e.trans (by rw [h]; rfl)) ⟨by kernel_rfl, by kernel_rfl, by kernel_rfl, by kernel_rfl, trivial⟩ (by kernel_rfl) ⟨by kernel_rfl, trivial⟩
theorem nilR13_3 (z : Nat → Int) (hLe : resL z 13 = []) : TC Try.prog 68 o8 (frL' (fo8 13 nilV 3)) 1 (stL (s0' z)) .normal (frL' (fo8 13 nilV 4)) 1 (stL (s0' z)) := by
  rw [o8_eq]
  cases hz : eqb (z 7) 0 with
  | false => exact TC.seq (nilA3 z 13 ) (TC.seq (TC.block (TC.seq (nilB3 z 13 ) (TC.seq (nilI3 z 13) (nilD13_3_true_0 z (by rw [hz]; rfl)))) (.inl rfl)) (nilE3 z 13 ))
  | true => exact TC.seq (nilA3 z 13 ) (TC.seq (TC.block (TC.seq (nilB3 z 13 ) (TC.seq (nilI3 z 13) (nilD13_3_false_0 z (by rw [hz]; rfl)))) (.inl rfl)) (nilE3 z 13 ))
theorem nilD13_4_true_0 (z : Nat → Int) (h : (!eqb (z 9) 0) = true) : TC Try.prog 68 (sq2 (sq2 in8)) (frL' (fe8 13 nilV 4 0)) 1 (stL (s0' z)) .normal (frL' (fo8 13 nilV 4)) 1 (stL (s0' z)) := by
  have e : (oSt (ev8 [(0, true), (1, true), (2, true), (3, true)] [] 1 (sq2 (sq2 in8)) (fe8 13 nilV 4 0) (s0' z))).ok = okT [(!eqb (z 9) 0) == true, (!eqb (z 9) 0) == true, (!eqb (z 9) 0) == true, (!eqb (z 9) 0) == true] true := by kernel_rfl
  exact tc8 (φ := [(0, true), (1, true), (2, true), (3, true)]) (nils := []) (by kernel_rfl) (e.trans (by rw [h]; rfl)) ⟨by kernel_rfl, by kernel_rfl, by kernel_rfl, by kernel_rfl, trivial⟩ (by kernel_rfl) ⟨by kernel_rfl, trivial⟩
theorem nilD13_4_false_0 (z : Nat → Int) (h : (!eqb (z 9) 0) = false) : TC Try.prog 68 (sq2 (sq2 in8)) (frL' (fe8 13 nilV 4 0)) 1 (stL (s0' z)) .normal (frL' (fo8 13 nilV 4)) 1 (stL (s0' z)) := by
  have e : (oSt (ev8 [(0, false), (1, false), (2, false), (3, false)] [] 1 (sq2 (sq2 in8)) (fe8 13 nilV 4 0) (s0' z))).ok = okT [(!eqb (z 9) 0) == false, (!eqb (z 9) 0) == false, (!eqb (z 9) 0) == false, (!eqb (z 9) 0) == false] true := by kernel_rfl
  exact tc8 (φ := [(0, false), (1, false), (2, false), (3, false)]) (nils := []) (by kernel_rfl) (e.trans (by rw [h]; rfl)) ⟨by kernel_rfl, by kernel_rfl, by kernel_rfl, by kernel_rfl, trivial⟩ (by kernel_rfl) ⟨by kernel_rfl, trivial⟩
theorem nilR13_4 (z : Nat → Int) (hLe : resL z 13 = []) : TC Try.prog 68 o8 (frL' (fo8 13 nilV 4)) 1 (stL (s0' z)) .normal (frL' (fo8 13 nilV 5)) 1 (stL (s0' z)) := by
  rw [o8_eq]
  cases hz : eqb (z 9) 0 with
  | false => exact TC.seq (nilA4 z 13 ) (TC.seq (TC.block (TC.seq (nilB4 z 13 ) (TC.seq (nilI4 z 13) (nilD13_4_true_0 z (by rw [hz]; rfl)))) (.inl rfl)) (nilE4 z 13 ))
  | true => exact TC.seq (nilA4 z 13 ) (TC.seq (TC.block (TC.seq (nilB4 z 13 ) (TC.seq (nilI4 z 13) (nilD13_4_false_0 z (by rw [hz]; rfl)))) (.inl rfl)) (nilE4 z 13 ))
theorem nilD13_5_true_0 (z : Nat → Int) (h : (!eqb (z 11) 0) = true) : TC Try.prog 68 (sq2 (sq2 in8)) (frL' (fe8 13 nilV 5 0)) 1 (stL (s0' z)) .normal (frL' (fo8 13 nilV 5)) 1 (stL (s0' z)) := by
  have e : (oSt (ev8 [(0, true), (1, true), (2, true), (3, true)] [] 1 (sq2 (sq2 in8)) (fe8 13 nilV 5 0) (s0' z))).ok = okT [(!eqb (z 11) 0) == true, (!eqb (z 11) 0) == true, (!eqb (z 11) 0) == true, (!eqb (z 11) 0) == true] true := by kernel_rfl
  exact tc8 (φ := [(0, true), (1, true), (2, true), (3, true)]) (nils := []) (by kernel_rfl) (e.trans (by rw [h]; rfl)) ⟨by kernel_rfl, by kernel_rfl, by kernel_rfl, by kernel_rfl, trivial⟩ (by kernel_rfl) ⟨by kernel_rfl, trivial⟩
theorem nilD13_5_false_0 (z : Nat → Int) (h : (!eqb (z 11) 0) = false) : TC Try.prog 68 (sq2 (sq2 in8)) (frL' (fe8 13 nilV 5 0)) 1 (stL (s0' z)) .normal (frL' (fo8 13 nilV 5)) 1 (stL (s0' z)) := by
  have e : (oSt (ev8 [(0, false), (1, false), (2, false), (3, false)] [] 1 (sq2 (sq2 in8)) (fe8 13 nilV 5 0) (s0' z))).ok = okT [(!eqb (z 11) 0) == false, (!eqb (z 11) 0) == false, (!eqb (z 11) 0) == false, (!eqb (z 11) 0) == false] true := by kernel_rfl
  exact tc8 (φ := [(0, false), (1, false), (2, false), (3, false)]) (nils := []) (by kernel_rfl) (e.trans (by rw [h]; rfl)) ⟨by kernel_rfl, by kernel_rfl, by kernel_rfl, by kernel_rfl, trivial⟩ (by kernel_rfl) ⟨by kernel_rfl, trivial⟩
theorem nilR13_5 (z : Nat → Int) (hLe : resL z 13 = []) : TC Try.prog 68 o8 (frL' (fo8 13 nilV 5)) 1 (stL (s0' z)) .normal (frL' (fo8 13 nilV 6)) 1 (stL (s0' z)) := by
  rw [o8_eq]
  cases hz : eqb (z 11) 0 with
  | false => exact TC.seq (nilA5 z 13 ) (TC.seq (TC.block (TC.seq (nilB5 z 13 ) (TC.seq (nilI5 z 13) (nilD13_5_true_0 z (by rw [hz]; rfl)))) (.inl rfl)) (nilE5 z 13 ))
  | true => exact TC.seq (nilA5 z 13 ) (TC.seq (TC.block (TC.seq (nilB5 z 13 ) (TC.seq (nilI5 z 13) (nilD13_5_false_0 z (by rw [hz]; rfl)))) (.inl rfl)) (nilE5 z 13 ))
theorem nilD13_6_false_0 (z : Nat → Int) (h : (!eqb (z 13) 0) = false) : TC Try.prog 68 (sq2 (sq2 in8)) (frL' (fe8 13 nilV 6 0)) 1 (stL (s0' z)) .normal (frL' (fo8 13 nilV 6)) 1 (stL (s0' z)) := by
  have e : (oSt (ev8 [(0, false), (1, false), (2, false), (3, false)] [] 1 (sq2 (sq2 in8)) (fe8 13 nilV 6 0) (s0' z))).ok = okT [(!eqb (z 13) 0) == false, (!eqb (z 13) 0) == false, (!eqb (z 13) 0) == false, (!eqb (z 13) 0) == false] true := by kernel_rfl
  exact tc8 (φ := [(0, false), (1, false), (2, false), (3, false)]) (nils := []) (by kernel_rfl) (e.trans (by rw [h]; rfl)) ⟨by kernel_rfl, by kernel_rfl, by kernel_rfl, by kernel_rfl, trivial⟩ (by kernel_rfl) ⟨by kernel_rfl, trivial⟩
theorem nilR13_6 (z : Nat → Int) (hLe : resL z 13 = []) : TC Try.prog 68 o8 (frL' (fo8 13 nilV 6)) 1 (stL (s0' z)) .normal (frL' (fo8 13 nilV 7)) 1 (stL (s0' z)) := by
  rw [o8_eq]
  have hr := c13_6 z
  rw [hLe] at hr
  cases hz : eqb (z 13) 0 with
  | false => exact absurd (hr.2 hz) (by simp [ucnt])
  | true => exact TC.seq (nilA6 z 13 ) (TC.seq (TC.block (TC.seq (nilB6 z 13 ) (TC.seq (nilI6 z 13) (nilD13_6_false_0 z (by rw [hz]; rfl)))) (.inl rfl)) (nilE6 z 13 ))
theorem nilD13_7_false_0 (z : Nat → Int) (h : (!eqb (z 15) 0) = false) : TC Try.prog 68 (sq2 (sq2 in8)) (frL' (fe8 13 nilV 7 0)) 1 (stL (s0' z)) .normal (frL' (fo8 13 nilV 7)) 1 (stL (s0' z)) := by
  have e : (oSt (ev8 [(0, false), (1, false), (2, false), (3, false)] [] 1 (sq2 (sq2 in8)) (fe8 13 nilV 7 0) (s0' z))).ok = okT [(!eqb (z 15) 0) == false, (!eqb (z 15) 0) == false, (!eqb (z 15) 0) == false, (!eqb (z 15) 0) == false] true := by kernel_rfl
  exact tc8 (φ := [(0, false), (1, false), (2, false), (3, false)]) (nils := []) (by kernel_rfl) (e.trans (by rw [h]; rfl)) ⟨by kernel_rfl, by kernel_rfl, by kernel_rfl, by kernel_rfl, trivial⟩ (by kernel_rfl) ⟨by kernel_rfl, trivial⟩
theorem nilR13_7 (z : Nat → Int) (hLe : resL z 13 = []) : TC Try.prog 68 o8 (frL' (fo8 13 nilV 7)) 1 (stL (s0' z)) .normal (frL' (fo8 13 nilV 8)) 1 (stL (s0' z)) := by
  rw [o8_eq]
  have hr := c13_7 z
  rw [hLe] at hr
  cases hz : eqb (z 15) 0 with
  | false => exact absurd (hr.2 hz) (by simp [ucnt])
  | true => exact TC.seq (nilA7 z 13 ) (TC.seq (TC.block (TC.seq (nilB7 z 13 ) (TC.seq (nilI7 z 13) (nilD13_7_false_0 z (by rw [hz]; rfl)))) (.inl rfl)) (nilE7 z 13 ))
theorem nilW13 (z : Nat → Int) (hLe : resL z 13 = []) : TC Try.prog 68 (.seq (.seq (sq1 (sq1 (sq2 out8))) (.block 0 (.loop o8))) (sq2 (sq2 out8))) (frL' [(1, .sc (.int .i64 13)), (2, .ptr 0 0), (5, nilV)]) 1 (stL (s0' z)) .ret (frL' [(4, .sc (.bool true))]) 1 (stL (s0' z)) :=
  TC.seq (TC.seq (nilS z 13 ) (TC.block (TC.loop (k := 9) (TR.more (nilR13_0 z hLe) (TR.more (nilR13_1 z hLe) (TR.more (nilR13_2 z hLe) (TR.more (nilR13_3 z hLe) (TR.more (nilR13_4 z hLe) (TR.more (nilR13_5 z hLe) (TR.more (nilR13_6 z hLe) (TR.more (nilR13_7 z hLe) (TR.out (nilX z 13 ) (by simp))))))))))) (.inr rfl))) (nilZ z )
theorem nilD14_0_true_0 (z : Nat → Int) (h : (!eqb (z 1) 0) = true) : TC Try.prog 68 (sq2 (sq2 in8)) (frL' (fe8 14 nilV 0 0)) 1 (stL (s0' z)) .normal (frL' (fo8 14 nilV 0)) 1 (stL (s0' z)) := by
  have e : (oSt (ev8 [(0, true), (1, true), (2, true), (3, true)] [] 1 (sq2 (sq2 in8)) (fe8 14 nilV 0 0) (s0' z))).ok = okT [(!eqb (z 1) 0) == true, (!eqb (z 1) 0) == true, (!eqb (z 1) 0) == true, (!eqb (z 1) 0) == true] true := by kernel_rfl
  exact tc8 (φ := [(0, true), (1, true), (2, true), (3, true)]) (nils := []) (by kernel_rfl) (e.trans (by rw [h]; rfl)) ⟨by kernel_rfl, by kernel_rfl, by kernel_rfl, by kernel_rfl, trivial⟩ (by kernel_rfl) ⟨by kernel_rfl, trivial⟩
theorem nilD14_0_false_0 (z : Nat → Int) (h : (!eqb (z 1) 0) = false) : TC Try.prog 68 (sq2 (sq2 in8)) (frL' (fe8 14 nilV 0 0)) 1 (stL (s0' z)) .normal (frL' (fo8 14 nilV 0)) 1 (stL (s0' z)) := by
  have e : (oSt (ev8 [(0, false), (1, false), (2, false), (3, false)] [] 1 (sq2 (sq2 in8)) (fe8 14 nilV 0 0) (s0' z))).ok = okT [(!eqb (z 1) 0) == false, (!eqb (z 1) 0) == false, (!eqb (z 1) 0) == false, (!eqb (z 1) 0) == false] true := by kernel_rfl
  exact tc8 (φ := [(0, false), (1, false), (2, false), (3, false)]) (nils := []) (by kernel_rfl) (e.trans (by rw [h]; rfl)) ⟨by kernel_rfl, by kernel_rfl, by kernel_rfl, by kernel_rfl, trivial⟩ (by kernel_rfl) ⟨by kernel_rfl, trivial⟩
theorem nilR14_0 (z : Nat → Int) (hLe : resL z 14 = []) : TC Try.prog 68 o8 (frL' (fo8 14 nilV 0)) 1 (stL (s0' z)) .normal (frL' (fo8 14 nilV 1)) 1 (stL (s0' z)) := by
  rw [o8_eq]
  cases hz : eqb (z 1) 0 with
  | false => exact TC.seq (nilA0 z 14 ) (TC.seq (TC.block (TC.seq (nilB0 z 14 ) (TC.seq (nilI0 z 14) (nilD14_0_true_0 z (by rw [hz]; rfl)))) (.inl rfl)) (nilE0 z 14 ))
  | true => exact TC.seq (nilA0 z 14 ) (TC.seq (TC.block (TC.seq (nilB0 z 14 ) (TC.seq (nilI0 z 14) (nilD14_0_false_0 z (by rw [hz]; rfl)))) (.inl rfl)) (nilE0 z 14 ))
theorem nilD14_1_true_0 (z : Nat → Int) (h : (!eqb (z 3) 0) = true) : TC Try.prog 68 (sq2 (sq2 in8)) (frL' (fe8 14 nilV 1 0)) 1 (stL (s0' z)) .normal (frL' (fo8 14 nilV 1)) 1 (stL (s0' z)) := by
  have e : (oSt (ev8 [(0, true), (1, true), (2, true), (3, true)] [] 1 (sq2 (sq2 in8)) (fe8 14 nilV 1 0) (s0' z))).ok = okT [(!eqb (z 3) 0) == true, (!eqb (z 3) 0) == true, (!eqb (z 3) 0) == true, (!eqb (z 3) 0) == true] true := by kernel_rfl
  exact tc8 (φ := [(0, true), (1, true), (2, true), (3, true)]) (nils := []) (by kernel_rfl) (e.trans (by rw [h]; rfl)) ⟨by kernel_rfl, by kernel_rfl, by kernel_rfl, by kernel_rfl, trivial⟩ (by kernel_rfl) ⟨by kernel_rfl, trivial⟩
theorem nilD14_1_false_0 (z : Nat → Int) (h : (!eqb (z 3) 0) = false) : TC Try.prog 68 (sq2 (sq2 in8)) (frL' (fe8 14 nilV 1 0)) 1 (stL (s0' z)) .normal (frL' (fo8 14 nilV 1)) 1 (stL (s0' z)) := by
  have e : (oSt (ev8 [(0, false), (1, false), (2, false), (3, false)] [] 1 (sq2 (sq2 in8)) (fe8 14 nilV 1 0) (s0' z))).ok = okT [(!eqb (z 3) 0) == false, (!eqb (z 3) 0) == false, (!eqb (z 3) 0) == false, (!eqb (z 3) 0) == false] true := by kernel_rfl
  exact tc8 (φ := [(0, false), (1, false), (2, false), (3, false)]) (nils := []) (by kernel_rfl) (e.trans (by rw [h]; rfl)) ⟨by kernel_rfl, by kernel_rfl, by kernel_rfl, by kernel_rfl, trivial⟩ (by kernel_rfl) ⟨by kernel_rfl, trivial⟩
theorem nilR14_1 (z : Nat → Int) (hLe : resL z 14 = []) : TC Try.prog 68 o8 (frL' (fo8 14 nilV 1)) 1 (stL (s0' z)) .normal (frL' (fo8 14 nilV 2)) 1 (stL (s0' z)) := by
  rw [o8_eq]
  cases hz : eqb (z 3) 0 with
  | false => exact TC.seq (nilA1 z 14 ) (TC.seq (TC.block (TC.seq (nilB1 z 14 ) (TC.seq (nilI1 z 14) (nilD14_1_true_0 z (by rw [hz]; rfl)))) (.inl rfl)) (nilE1 z 14 ))
  | true => exact TC.seq (nilA1 z 14 ) (TC.seq (TC.block (TC.seq (nilB1 z 14 ) (TC.seq (nilI1 z 14) (nilD14_1_false_0 z (by rw [hz]; rfl)))) (.inl rfl)) (nilE1 z 14 ))
theorem nilD14_2_true_0 (z : Nat → Int) (h : (!eqb (z 5) 0) = true) : TC Try.prog 68 (sq2 (sq2 in8)) (frL' (fe8 14 nilV 2 0)) 1 (stL (s0' z)) .normal (frL' (fo8 14 nilV 2)) 1 (stL (s0' z)) := by
  have e : (oSt (ev8 [(0, true), (1, true), (2, true), (3, true)] [] 1 (sq2 (sq2 in8)) (fe8 14 nilV 2 0) (s0' z))).ok = okT [(!eqb (z 5) 0) == true, (!eqb (z 5) 0) == true, (!eqb (z 5) 0) == true, (!eqb (z 5) 0) == true] true := by kernel_rfl
  exact tc8 (φ := [(0, true), (1, true), (2, true), (3, true)]) (nils := []) (by kernel_rfl) (e.trans (by rw [h]; rfl)) ⟨by kernel_rfl, by kernel_rfl, by kernel_rfl, by kernel_rfl, trivial⟩ (by kernel_rfl) ⟨by kernel_rfl, trivial⟩
theorem nilD14_2_false_0 (z : Nat → Int) (h : (!eqb (z 5) 0) = false) : TC Try.prog 68 (sq2 (sq2 in8)) (frL' (fe8 14 nilV 2 0)) 1 (stL (s0' z)) .normal (frL' (fo8 14 nilV 2)) 1 (stL (s0' z)) := by
  have e : (oSt (ev8 [(0, false), (1, false), (2, false), (3, false)] [] 1 (sq2 (sq2 in8)) (fe8 14 nilV 2 0) (s0' z))).ok = okT [(!eqb (z 5) 0) == false, (!eqb (z 5) 0) == false, (!eqb (z 5) 0) == false, (!eqb (z 5) 0) == false] true := by kernel_rfl
  exact tc8 (φ := [(0, false), (1, false), (2, false), (3, false)]) (nils := []) (by kernel_rfl) (e.trans (by rw [h]; rfl)) ⟨by kernel_rfl, by kernel_rfl, by kernel_rfl, by kernel_rfl, trivial⟩ (by kernel_rfl) ⟨by kernel_rfl, trivial⟩
theorem nilR14_2 (z : Nat → Int) (hLe : resL z 14 = []) : TC Try.prog 68 o8 (frL' (fo8 14 nilV 2)) 1 (stL (s0' z)) .normal (frL' (fo8 14 nilV 3)) 1 (stL (s0' z)) := by
  rw [o8_eq]
  cases hz : eqb (z 5) 0 with
  | false => exact TC.seq (nilA2 z 14 ) (TC.seq (TC.block (TC.seq (nilB2 z 14 ) (TC.seq (nilI2 z 14) (nilD14_2_true_0 z (by rw [hz]; rfl)))) (.inl rfl)) (nilE2 z 14 ))
  | true => exact TC.seq (nilA2 z 14 ) (TC.seq (TC.block (TC.seq (nilB2 z 14 ) (TC.seq (nilI2 z 14) (nilD14_2_false_0 z (by rw [hz]; rfl)))) (.inl rfl)) (nilE2 z 14 ))
theorem nilD14_3_true_0 (z : Nat → Int) (h : (!eqb (z 7) 0) = true) : TC Try.prog 68 (sq2 (sq2 in8)) (frL' (fe8 14 nilV 3 0)) 1 (stL (s0' z)) .normal (frL' (fo8 14 nilV 3)) 1 (stL (s0' z)) := by
  have e : (oSt (ev8 [(0, true), (1, true), (2, true), (3, true)] [] 1 (sq2 (sq2 in8)) (fe8 14 nilV 3 0) (s0' z))).ok = okT [(!eqb (z 7) 0) == true, (!eqb (z 7) 0) == true, (!eqb (z 7) 0) == true, (!eqb (z 7) 0) == true] true := by kernel_rfl
  exact tc8 (φ := [(0, true), (1, true), (2, true), (3, true)]) (nils := []) (by kernel_rfl) (e.trans (by rw [h]; rfl)) ⟨by kernel_rfl, by kernel_rfl, by kernel_rfl, by kernel_rfl, trivial⟩ (by kernel_rfl) ⟨by kernel_rfl, trivial⟩
theorem nilD14_3_false_0 (z : Nat → Int) (h : (!eqb (z 7) 0) = false) : TC Try.prog 68 (sq2 (sq2 in8)) (frL' (fe8 14 nilV 3 0)) 1 (stL (s0' z)) .normal (frL' (fo8 14 nilV 3)) 1 (stL (s0' z)) := by
  have e : (oSt (ev8 [(0, false), (1, false), (2, false), (3, false)] [] 1 (sq2 (sq2 in8)) (fe8 14 nilV 3 0) (s0' z))).ok = okT [(!eqb (z 7) 0) == false, (!eqb (z 7) 0) == false, (!eqb (z 7) 0) == false, (!eqb (z 7) 0) == false] true := by kernel_rfl
  exact tc8 (φ := [(0, false), (1, false), (2, false), (3, false)]) (nils := []) (by kernel_rfl) (e.trans (by rw [h]; rfl)) ⟨by kernel_rfl, by kernel_rfl, by kernel_rfl, by kernel_rfl, trivial⟩ (by kernel_rfl) ⟨by kernel_rfl, trivial⟩
theorem nilR14_3 (z : Nat → Int) (hLe : resL z 14 = []) : TC Try.prog 68 o8 (frL' (fo8 14 nilV 3)) 1 (stL (s0' z)) .normal (frL' (fo8 14 nilV 4)) 1 (stL (s0' z)) := by
  rw [o8_eq]
  cases hz : eqb (z 7) 0 with
  | false => exact TC.seq (nilA3 z 14 ) (TC.seq (TC.block (TC.seq (nilB3 z 14 ) (TC.seq (nilI3 z 14) (nilD14_3_true_0 z (by rw [hz]; rfl)))) (.inl rfl)) (nilE3 z 14 ))
  | true => exact TC.seq (nilA3 z 14 ) (TC.seq (TC.block (TC.seq (nilB3 z 14 ) (TC.seq (nilI3 z 14) (nilD14_3_false_0 z (by rw [hz]; rfl)))) (.inl rfl)) (nilE3 z 14 ))
theorem nilD14_4_true_0 (z : Nat → Int) (h : (!eqb (z 9) 0) = true) : TC Try.prog 68 (sq2 (sq2 in8)) (frL' (fe8 14 nilV 4 0)) 1 (stL (s0' z)) .normal (frL' (fo8 14 nilV 4)) 1 (stL (s0' z)) := by
  have e : (oSt (ev8 [(0, true), (1, true), (2, true), (3, true)] [] 1 (sq2 (sq2 in8)) (fe8 14 nilV 4 0) (s0' z))).ok = okT [(!eqb (z 9) 0) == true, (!eqb (z 9) 0) == true, (!eqb (z 9) 0) == true, (!eqb (z 9) 0) == true] true := by kernel_rfl
  exact tc8 (φ := [(0, true), (1, true), (2, true), (3, true)]) (nils := []) (by kernel_rfl) (e.trans (by rw [h]; rfl)) ⟨by kernel_rfl, by kernel_rfl, by kernel_rfl, by kernel_rfl, trivial⟩ (by kernel_rfl) ⟨by kernel_rfl, trivial⟩
theorem nilD14_4_false_0 (z : Nat → Int) (h : (!eqb (z 9) 0) = false) : TC Try.prog 68 (sq2 (sq2 in8)) (frL' (fe8 14 nilV 4 0)) 1 (stL (s0' z)) .normal (frL' (fo8 14 nilV 4)) 1 (stL (s0' z)) := by
  have e : (oSt (ev8 [(0, false), (1, false), (2, false), (3, false)] [] 1 (sq2 (sq2 in8)) (fe8 14 nilV 4 0) (s0' z))).ok = okT [(!eqb (z 9) 0) == false, (!eqb (z 9) 0) == false, (!eqb (z 9) 0) == false, (!eqb (z 9) 0) == false] true := by kernel_rfl
  exact tc8 (φ := [(0, false), (1, false), (2, false), (3, false)]) (nils := []) (by kernel_rfl) (e.trans (by rw [h]; rfl)) ⟨by kernel_rfl, by kernel_rfl, by kernel_rfl, by kernel_rfl, trivial⟩ (by kernel_rfl) ⟨by kernel_rfl, trivial⟩
theorem nilR14_4 (z : Nat → Int) (hLe : resL z 14 = []) : TC Try.prog 68 o8 (frL' (fo8 14 nilV 4)) 1 (stL (s0' z)) .normal (frL' (fo8 14 nilV 5)) 1 (stL (s0' z)) := by
  rw [o8_eq]
  cases hz : eqb (z 9) 0 with
  | false => exact TC.seq (nilA4 z 14 ) (TC.seq (TC.block (TC.seq (nilB4 z 14 ) (TC.seq (nilI4 z 14) (nilD14_4_true_0 z (by rw [hz]; rfl)))) (.inl rfl)) (nilE4 z 14 ))
  | true => exact TC.seq (nilA4 z 14 ) (TC.seq (TC.block (TC.seq (nilB4 z 14 ) (TC.seq (nilI4 z 14) (nilD14_4_false_0 z (by rw [hz]; rfl)))) (.inl rfl)) (nilE4 z 14 ))
theorem nilD14_5_true_0 (z : Nat → Int) (h : (!eqb (z 11) 0) = true) : TC Try.prog 68 (sq2 (sq2 in8)) (frL' (fe8 14 nilV 5 0)) 1 (stL (s0' z)) .normal (frL' (fo8 14 nilV 5)) 1 (stL (s0' z)) := by
  have e : (oSt (ev8 [(0, true), (1, true), (2, true), (3, true)] [] 1 (sq2 (sq2 in8)) (fe8 14 nilV 5 0) (s0' z))).ok = okT [(!eqb (z 11) 0) == true, (!eqb (z 11) 0) == true, (!eqb (z 11) 0) == true, (!eqb (z 11) 0) == true] true := by kernel_rfl
  exact tc8 (φ := [(0, true), (1, true), (2, true), (3, true)]) (nils := []) (by kernel_rfl) (e.trans (by rw [h]; rfl)) ⟨by kernel_rfl, by kernel_rfl, by kernel_rfl, by kernel_rfl, trivial⟩ (by kernel_rfl) ⟨by kernel_rfl, trivial⟩
theorem nilD14_5_false_0 (z : Nat → Int) (h : (!eqb (z 11) 0) = false) : TC Try.prog 68 (sq2 (sq2 in8)) (frL' (fe8 14 nilV 5 0)) 1 (stL (s0' z)) .normal (frL' (fo8 14 nilV 5)) 1 (stL (s0' z)) := by
  have e : (oSt (ev8 [(0, false), (1, false), (2, false), (3, false)] [] 1 (sq2 (sq2 in8)) (fe8 14 nilV 5 0) (s0' z))).ok = okT [(!eqb (z 11) 0) == false, (!eqb (z 11) 0) == false, (!eqb (z 11) 0) == false, (!eqb (z 11) 0) == false] true := by kernel_rfl
  exact tc8 (φ := [(0, false), (1, false), (2, false), (3, false)]) (nils := []) (by kernel_rfl) (e.trans (by rw [h]; rfl)) ⟨by kernel_rfl, by kernel_rfl, by kernel_rfl, by kernel_rfl, trivial⟩ (by kernel_rfl) ⟨by kernel_rfl, trivial⟩
theorem nilR14_5 (z : Nat → Int) (hLe : resL z 14 = []) : TC Try.prog 68 o8 (frL' (fo8 14 nilV 5)) 1 (stL (s0' z)) .normal (frL' (fo8 14 nilV 6)) 1 (stL (s0' z)) := by
  rw [o8_eq]
  cases hz : eqb (z 11) 0 with
  | false => exact TC.seq (nilA5 z 14 ) (TC.seq (TC.block (TC.seq (nilB5 z 14 ) (TC.seq (nilI5 z 14) (nilD14_5_true_0 z (by rw [hz]; rfl)))) (.inl rfl)) (nilE5 z 14 ))
  | true => exact TC.seq (nilA5 z 14 ) (TC.seq (TC.block (TC.seq (nilB5 z 14 ) (TC.seq (nilI5 z 14) (nilD14_5_false_0 z (by rw [hz]; rfl)))) (.inl rfl)) (nilE5 z 14 ))
theorem nilD14_6_true_0 (z : Nat → Int) (h : (!eqb (z 13) 0) = true) : TC Try.prog 68 (sq2 (sq2 in8)) (frL' (fe8 14 nilV 6 0)) 1 (stL (s0' z)) .normal (frL' (fo8 14 nilV 6)) 1 (stL (s0' z)) := by
  have e : (oSt (ev8 [(0, true), (1, true), (2, true), (3, true)] [] 1 (sq2 (sq2 in8)) (fe8 14 nilV 6 0) (s0' z))).ok = okT [(!eqb (z 13) 0) == true, (!eqb (z 13) 0) == true, (!eqb (z 13) 0) == true, (!eqb (z 13) 0) == true] true := by kernel_rfl
  exact tc8 (φ := [(0, true), (1, true), (2, true), (3, true)]) (nils := []) (by kernel_rfl) (e.trans (by rw [h]; rfl)) ⟨by kernel_rfl, by kernel_rfl, by kernel_rfl, by kernel_rfl, trivial⟩ (by kernel_rfl) ⟨by kernel_rfl, trivial⟩
theorem nilD14_6_false_0 (z : Nat → Int) (h : (!eqb (z 13) 0) = false) : TC Try.prog 68 (sq2 (sq2 in8)) (frL' (fe8 14 nilV 6 0)) 1 (stL (s0' z)) .normal (frL' (fo8 14 nilV 6)) 1 (stL (s0' z)) := by
  have e : (oSt (ev8 [(0, false), (1, false), (2, false), (3, false)] [] 1 (sq2 (sq2 in8)) (fe8 14 nilV 6 0) (s0' z))).ok = okT [(!eqb (z 13) 0) == false, (!eqb (z 13) 0) == false, (!eqb (z 13) 0) == false, (!eqb (z 13) 0) == false] true := by kernel_rfl
  exact tc8 (φ := [(0, false), (1, false), (2, false), (3, false)]) (nils := []) (by kernel_rfl) (e.trans (by rw [h]; rfl)) ⟨by kernel_rfl, by kernel_rfl, by kernel_rfl, by kernel_rfl, trivial⟩ (by kernel_rfl) ⟨by kernel_rfl, trivial⟩
theorem nilR14_6 (z : Nat → Int) (hLe : resL z 14 = []) : TC Try.prog 68 o8 (frL' (fo8 14 nilV 6)) 1 (stL (s0' z)) .normal (frL' (fo8 14 nilV 7)) 1 (stL (s0' z)) := by
  rw [o8_eq]
  cases hz : eqb (z 13) 0 with
  | false => exact TC.seq (nilA6 z 14 ) (TC.seq (TC.block (TC.seq (nilB6 z 14 ) (TC.seq (nilI6 z 14) (nilD14_6_true_0 z (by rw [hz]; rfl)))) (.inl rfl)) (nilE6 z 14 ))
  | true => exact TC.seq (nilA6 z 14 ) (TC.seq (TC.block (TC.seq (nilB6 z 14 ) (TC.seq (nilI6 z 14) (nilD14_6_false_0 z (by rw [hz]; rfl)))) (.inl rfl)) (nilE6 z 14 ))
theorem nilD14_7_false_0 (z : Nat → Int) (h : (!eqb (z 15) 0) = false) : TC Try.prog 68 (sq2 (sq2 in8)) (frL' (fe8 14 nilV 7 0)) 1 (stL (s0' z)) .normal (frL' (fo8 14 nilV 7)) 1 (stL (s0' z)) := by
  have e : (oSt (ev8 [(0, false), (1, false), (2, false), (3, false)] [] 1 (sq2 (sq2 in8)) (fe8 14 nilV 7 0) (s0' z))).ok = okT [(!eqb (z 15) 0) == false, (!eqb (z 15) 0) == false, (!eqb (z 15) 0) == false, (!eqb (z 15) 0) == false] true := by kernel_rfl
  exact tc8 (φ := [(0, false), (1, false), (2, false), (3, false)]) (nils := []) (by kernel_rfl) (e.trans (by rw [h]; rfl)) ⟨by kernel_rfl, by kernel_rfl, by kernel_rfl, by kernel_rfl, trivial⟩ (by kernel_rfl) ⟨by kernel_rfl, trivial⟩
theorem nilR14_7 (z : Nat → Int) (hLe : resL z 14 = []) : TC Try.prog 68 o8 (frL' (fo8 14 nilV 7)) 1 (stL (s0' z)) .normal (frL' (fo8 14 nilV 8)) 1 (stL (s0' z)) := by
  rw [o8_eq]
  have hr := c14_7 z
  rw [hLe] at hr
  cases hz : eqb (z 15) 0 with
  | false => exact absurd (hr.2 hz) (by simp [ucnt])
  | true => exact TC.seq (nilA7 z 14 ) (TC.seq (TC.block (TC.seq (nilB7 z 14 ) (TC.seq (nilI7 z 14) (nilD14_7_false_0 z (by rw [hz]; rfl)))) (.inl rfl)) (nilE7 z 14 ))
theorem nilW14 (z : Nat → Int) (hLe : resL z 14 = []) : TC Try.prog 68 (.seq (.seq (sq1 (sq1 (sq2 out8))) (.block 0 (.loop o8))) (sq2 (sq2 out8))) (frL' [(1, .sc (.int .i64 14)), (2, .ptr 0 0), (5, nilV)]) 1 (stL (s0' z)) .ret (frL' [(4, .sc (.bool true))]) 1 (stL (s0' z)) :=
  TC.seq (TC.seq (nilS z 14 ) (TC.block (TC.loop (k := 9) (TR.more (nilR14_0 z hLe) (TR.more (nilR14_1 z hLe) (TR.more (nilR14_2 z hLe) (TR.more (nilR14_3 z hLe) (TR.more (nilR14_4 z hLe) (TR.more (nilR14_5 z hLe) (TR.more (nilR14_6 z hLe) (TR.more (nilR14_7 z hLe) (TR.out (nilX z 14 ) (by simp))))))))))) (.inr rfl))) (nilZ z )
theorem first8 (z : Nat → Int) (v : Int) : TC Try.prog 68 (sq1 b8) (frL' [(0, .agg (nums' .i64 31 z)), (1, .sc (.int .i64 v))]) 0 (stL []) .normal (frL' [(1, .sc (.int .i64 v)), (2, .ptr 0 0)]) 1 (stL (s0' z)) :=
  tc8 (φ := []) (nils := []) (by kernel_rfl) (by kernel_rfl) ⟨by kernel_rfl, by kernel_rfl, trivial⟩ (by kernel_rfl) ⟨by kernel_rfl, trivial⟩
theorem low8 (z : Nat → Int) (m : Nat) : TC Try.prog 68 b8 (frL' [(0, .agg (nums' .i64 31 z)), (1, .sc (.int .i64 (Int.negSucc m)))]) 0 (stL []) .ret (frL' [(4, .sc (.bool true))]) 2 (stL (s0' z)) := by
  rw [b8_eq]
  refine TC.seq (first8 z (Int.negSucc m)) (TC.seqOut (TC.post (tc8 (φ := []) (nils := []) (gl := [(4, .sc (.bool true))]) (n' := 1) (tl := s0' z) (o := .ret) (by kernel_rfl) (by kernel_rfl) ⟨by kernel_rfl, trivial⟩ (by kernel_rfl) ⟨by kernel_rfl, trivial⟩) (Fr.le.refl _) (by omega) (Sto.le.refl _)) (by simp))
theorem high8 (z : Nat → Int) (m : Nat) : TC Try.prog 68 b8 (frL' [(0, .agg (nums' .i64 31 z)), (1, .sc (.int .i64 (Int.ofNat (m + 15))))]) 0 (stL []) .ret (frL' [(4, .sc (.bool true))]) 2 (stL (s0' z)) := by
  rw [b8_eq]
  refine TC.seq (first8 z (Int.ofNat (m + 15))) (TC.seqOut (TC.post (tc8 (φ := []) (nils := []) (gl := [(4, .sc (.bool true))]) (n' := 1) (tl := s0' z) (o := .ret) (by kernel_rfl) (by kernel_rfl) ⟨by kernel_rfl, trivial⟩ (by kernel_rfl) ⟨by kernel_rfl, trivial⟩) (Fr.le.refl _) (by omega) (Sto.le.refl _)) (by simp))
theorem at8_0 (z : Nat → Int) : TC Try.prog 68 b8 (frL' [(0, .agg (nums' .i64 31 z)), (1, .sc (.int .i64 0))]) 0 (stL []) .ret (frL' [(4, .sc (.bool true))]) 2 (stL (s0' z)) := by
  rw [b8_eq]
  have hl : (resL z 0).length ≤ 8 := by have := len0 z; exact Nat.le_trans this (by omega)
  refine TC.seq (first8 z 0) (TC.seq (tc8 (φ := []) (nils := []) (gl := [(1, .sc (.int .i64 0)), (2, .ptr 0 0)]) (n' := 1) (tl := s0' z) (by kernel_rfl) (by kernel_rfl) ⟨by kernel_rfl, by kernel_rfl, trivial⟩ (by kernel_rfl) ⟨by kernel_rfl, trivial⟩) ?_)
  cases he : emp (resL z 0) with
  | true =>
    have h : (oSt (ev8 [] [0] 1 (sq1 out8) [(1, .sc (.int .i64 0)), (2, .ptr 0 0)] (s0' z))).ok = okT [emp (resL z 0)] true := by kernel_rfl
    refine TC.post (TC.seq (tc8 (φ := []) (nils := [0]) (gl := [(1, .sc (.int .i64 0)), (2, .ptr 0 0), (5, nilV)]) (n' := 1) (tl := s0' z) (by kernel_rfl) (h.trans (by rw [he]; rfl)) ⟨by kernel_rfl, by kernel_rfl, by kernel_rfl, trivial⟩ (by kernel_rfl) ⟨by kernel_rfl, trivial⟩) (nilW0 z (emp_ok.1 he))) (Fr.le.refl _) (by omega) (Sto.le.refl _)
  | false =>
    have h : (oSt (ev8 [] [] 1 (sq1 out8) [(1, .sc (.int .i64 0)), (2, .ptr 0 0)] (s0' z))).ok = okT [!emp (resL z 0)] true := by kernel_rfl
    refine TC.post (TC.seq (tc8 (φ := []) (nils := []) (gl := [(1, .sc (.int .i64 0)), (2, .ptr 0 0), (5, .sl 1 0 (resL z 0).length 1 true none)]) (n' := 2) (tl := s8' z (resL z 0)) (by kernel_rfl) (h.trans (by rw [he]; rfl)) ⟨by kernel_rfl, by kernel_rfl, by kernel_rfl, trivial⟩ (by kernel_rfl) ⟨by kernel_rfl, by kernel_rfl, trivial⟩) (slW0 z (resL z 0) (by omega) rfl)) (Fr.le.refl _) (Nat.le_refl 2) (stHas.le ⟨rfl, trivial⟩)
theorem at8_1 (z : Nat → Int) : TC Try.prog 68 b8 (frL' [(0, .agg (nums' .i64 31 z)), (1, .sc (.int .i64 1))]) 0 (stL []) .ret (frL' [(4, .sc (.bool true))]) 2 (stL (s0' z)) := by
  rw [b8_eq]
  have hl : (resL z 1).length ≤ 8 := by have := len1 z; exact Nat.le_trans this (by omega)
  refine TC.seq (first8 z 1) (TC.seq (tc8 (φ := []) (nils := []) (gl := [(1, .sc (.int .i64 1)), (2, .ptr 0 0)]) (n' := 1) (tl := s0' z) (by kernel_rfl) (by kernel_rfl) ⟨by kernel_rfl, by kernel_rfl, trivial⟩ (by kernel_rfl) ⟨by kernel_rfl, trivial⟩) ?_)
  cases he : emp (resL z 1) with
  | true =>
    have h : (oSt (ev8 [] [1] 1 (sq1 out8) [(1, .sc (.int .i64 1)), (2, .ptr 0 0)] (s0' z))).ok = okT [emp (resL z 1)] true := by kernel_rfl
    refine TC.post (TC.seq (tc8 (φ := []) (nils := [1]) (gl := [(1, .sc (.int .i64 1)), (2, .ptr 0 0), (5, nilV)]) (n' := 1) (tl := s0' z) (by kernel_rfl) (h.trans (by rw [he]; rfl)) ⟨by kernel_rfl, by kernel_rfl, by kernel_rfl, trivial⟩ (by kernel_rfl) ⟨by kernel_rfl, trivial⟩) (nilW1 z (emp_ok.1 he))) (Fr.le.refl _) (by omega) (Sto.le.refl _)
  | false =>
    have h : (oSt (ev8 [] [] 1 (sq1 out8) [(1, .sc (.int .i64 1)), (2, .ptr 0 0)] (s0' z))).ok = okT [!emp (resL z 1)] true := by kernel_rfl
    refine TC.post (TC.seq (tc8 (φ := []) (nils := []) (gl := [(1, .sc (.int .i64 1)), (2, .ptr 0 0), (5, .sl 1 0 (resL z 1).length 1 true none)]) (n' := 2) (tl := s8' z (resL z 1)) (by kernel_rfl) (h.trans (by rw [he]; rfl)) ⟨by kernel_rfl, by kernel_rfl, by kernel_rfl, trivial⟩ (by kernel_rfl) ⟨by kernel_rfl, by kernel_rfl, trivial⟩) (slW1 z (resL z 1) (by omega) rfl)) (Fr.le.refl _) (Nat.le_refl 2) (stHas.le ⟨rfl, trivial⟩)
theorem at8_2 (z : Nat → Int) : TC Try.prog 68 b8 (frL' [(0, .agg (nums' .i64 31 z)), (1, .sc (.int .i64 2))]) 0 (stL []) .ret (frL' [(4, .sc (.bool true))]) 2 (stL (s0' z)) := by
  rw [b8_eq]
  have hl : (resL z 2).length ≤ 8 := by have := len2 z; exact Nat.le_trans this (by omega)
  refine TC.seq (first8 z 2) (TC.seq (tc8 (φ := []) (nils := []) (gl := [(1, .sc (.int .i64 2)), (2, .ptr 0 0)]) (n' := 1) (tl := s0' z) (by kernel_rfl) (by kernel_rfl) ⟨by kernel_rfl, by kernel_rfl, trivial⟩ (by kernel_rfl) ⟨by kernel_rfl, trivial⟩) ?_)
  cases he : emp (resL z 2) with
  | true =>
    have h : (oSt (ev8 [] [2] 1 (sq1 out8) [(1, .sc (.int .i64 2)), (2, .ptr 0 0)] (s0' z))).ok = okT [emp (resL z 2)] true := by kernel_rfl
    refine TC.post (TC.seq (tc8 (φ := []) (nils := [2]) (gl := [(1, .sc (.int .i64 2)), (2, .ptr 0 0), (5, nilV)]) (n' := 1) (tl := s0' z) (by kernel_rfl) (h.trans (by rw [he]; rfl)) ⟨by kernel_rfl, by kernel_rfl, by kernel_rfl, trivial⟩ (by kernel_rfl) ⟨by kernel_rfl, trivial⟩) (nilW2 z (emp_ok.1 he))) (Fr.le.refl _) (by omega) (Sto.le.refl _)
  | false =>
    have h : (oSt (ev8 [] [] 1 (sq1 out8) [(1, .sc (.int .i64 2)), (2, .ptr 0 0)] (s0' z))).ok = okT [!emp (resL z 2)] true := by kernel_rfl
    refine TC.post (TC.seq (tc8 (φ := []) (nils := []) (gl := [(1, .sc (.int .i64 2)), (2, .ptr 0 0), (5, .sl 1 0 (resL z 2).length 1 true none)]) (n' := 2) (tl := s8' z (resL z 2)) (by kernel_rfl) (h.trans (by rw [he]; rfl)) ⟨by kernel_rfl, by kernel_rfl, by kernel_rfl, trivial⟩ (by kernel_rfl) ⟨by kernel_rfl, by kernel_rfl, trivial⟩) (slW2 z (resL z 2) (by omega) rfl)) (Fr.le.refl _) (Nat.le_refl 2) (stHas.le ⟨rfl, trivial⟩)
theorem at8_3 (z : Nat → Int) : TC Try.prog 68 b8 (frL' [(0, .agg (nums' .i64 31 z)), (1, .sc (.int .i64 3))]) 0 (stL []) .ret (frL' [(4, .sc (.bool true))]) 2 (stL (s0' z)) := by
  rw [b8_eq]
  have hl : (resL z 3).length ≤ 8 := by have := len3 z; exact Nat.le_trans this (by omega)
  refine TC.seq (first8 z 3) (TC.seq (tc8 (φ := []) (nils := []) (gl := [(1, .sc (.int .i64 3)), (2, .ptr 0 0)]) (n' := 1) (tl := s0' z) (by kernel_rfl) (by kernel_rfl) ⟨by kernel_rfl, by kernel_rfl, trivial⟩ (by kernel_rfl) ⟨by kernel_rfl, trivial⟩) ?_)
  cases he : emp (resL z 3) with
  | true =>
    have h : (oSt (ev8 [] [3] 1 (sq1 out8) [(1, .sc (.int .i64 3)), (2, .ptr 0 0)] (s0' z))).ok = okT [emp (resL z 3)] true := by kernel_rfl
    refine TC.post (TC.seq (tc8 (φ := []) (nils := [3]) (gl := [(1, .sc (.int .i64 3)), (2, .ptr 0 0), (5, nilV)]) (n' := 1) (tl := s0' z) (by kernel_rfl) (h.trans (by rw [he]; rfl)) ⟨by kernel_rfl, by kernel_rfl, by kernel_rfl, trivial⟩ (by kernel_rfl) ⟨by kernel_rfl, trivial⟩) (nilW3 z (emp_ok.1 he))) (Fr.le.refl _) (by omega) (Sto.le.refl _)
  | false =>
    have h : (oSt (ev8 [] [] 1 (sq1 out8) [(1, .sc (.int .i64 3)), (2, .ptr 0 0)] (s0' z))).ok = okT [!emp (resL z 3)] true := by kernel_rfl
    refine TC.post (TC.seq (tc8 (φ := []) (nils := []) (gl := [(1, .sc (.int .i64 3)), (2, .ptr 0 0), (5, .sl 1 0 (resL z 3).length 1 true none)]) (n' := 2) (tl := s8' z (resL z 3)) (by kernel_rfl) (h.trans (by rw [he]; rfl)) ⟨by kernel_rfl, by kernel_rfl, by kernel_rfl, trivial⟩ (by kernel_rfl) ⟨by kernel_rfl, by kernel_rfl, trivial⟩) (slW3 z (resL z 3) (by omega) rfl)) (Fr.le.refl _) (Nat.le_refl 2) (stHas.le ⟨rfl, trivial⟩)
theorem at8_4 (z : Nat → Int) : TC Try.prog 68 b8 (frL' [(0, .agg (nums' .i64 31 z)), (1, .sc (.int .i64 4))]) 0 (stL []) .ret (frL' [(4, .sc (.bool true))]) 2 (stL (s0' z)) := by
  rw [b8_eq]
  have hl : (resL z 4).length ≤ 8 := by have := len4 z; exact Nat.le_trans this (by omega)
  refine TC.seq (first8 z 4) (TC.seq (tc8 (φ := []) (nils := []) (gl := [(1, .sc (.int .i64 4)), (2, .ptr 0 0)]) (n' := 1) (tl := s0' z) (by kernel_rfl) (by kernel_rfl) ⟨by kernel_rfl, by kernel_rfl, trivial⟩ (by kernel_rfl) ⟨by kernel_rfl, trivial⟩) ?_)
  cases he : emp (resL z 4) with
  | true =>
    have h : (oSt (ev8 [] [4] 1 (sq1 out8) [(1, .sc (.int .i64 4)), (2, .ptr 0 0)] (s0' z))).ok = okT [emp (resL z 4)] true := by kernel_rfl
    refine TC.post (TC.seq (tc8 (φ := []) (nils := [4]) (gl := [(1, .sc (.int .i64 4)), (2, .ptr 0 0), (5, nilV)]) (n' := 1) (tl := s0' z) (by kernel_rfl) (h.trans (by rw [he]; rfl)) ⟨by kernel_rfl, by kernel_rfl, by kernel_rfl, trivial⟩ (by kernel_rfl) ⟨by kernel_rfl, trivial⟩) (nilW4 z (emp_ok.1 he))) (Fr.le.refl _) (by omega) (Sto.le.refl _)
  | false =>
    have h : (oSt (ev8 [] [] 1 (sq1 out8) [(1, .sc (.int .i64 4)), (2, .ptr 0 0)] (s0' z))).ok = okT [!emp (resL z 4)] true := by kernel_rfl
    refine TC.post (TC.seq (tc8 (φ := []) (nils := []) (gl := [(1, .sc (.int .i64 4)), (2, .ptr 0 0), (5, .sl 1 0 (resL z 4).length 1 true none)]) (n' := 2) (tl := s8' z (resL z 4)) (by kernel_rfl) (h.trans (by rw [he]; rfl)) ⟨by kernel_rfl, by kernel_rfl, by kernel_rfl, trivial⟩ (by kernel_rfl) ⟨by kernel_rfl, by kernel_rfl, trivial⟩) (slW4 z (resL z 4) (by omega) rfl)) (Fr.le.refl _) (Nat.le_refl 2) (stHas.le ⟨rfl, trivial⟩)
theorem at8_5 (z : Nat → Int) : TC Try.prog 68 b8 (frL' [(0, .agg (nums' .i64 31 z)), (1, .sc (.int .i64 5))]) 0 (stL []) .ret (frL' [(4, .sc (.bool true))]) 2 (stL (s0' z)) := by
  rw [b8_eq]
  have hl : (resL z 5).length ≤ 8 := by have := len5 z; exact Nat.le_trans this (by omega)
  refine TC.seq (first8 z 5) (TC.seq (tc8 (φ := []) (nils := []) (gl := [(1, .sc (.int .i64 5)), (2, .ptr 0 0)]) (n' := 1) (tl := s0' z) (by kernel_rfl) (by kernel_rfl) ⟨by kernel_rfl, by kernel_rfl, trivial⟩ (by kernel_rfl) ⟨by kernel_rfl, trivial⟩) ?_)
  cases he : emp (resL z 5) with
  | true =>
    have h : (oSt (ev8 [] [5] 1 (sq1 out8) [(1, .sc (.int .i64 5)), (2, .ptr 0 0)] (s0' z))).ok = okT [emp (resL z 5)] true := by kernel_rfl
    refine TC.post (TC.seq (tc8 (φ := []) (nils := [5]) (gl := [(1, .sc (.int .i64 5)), (2, .ptr 0 0), (5, nilV)]) (n' := 1) (tl := s0' z) (by kernel_rfl) (h.trans (by rw [he]; rfl)) ⟨by kernel_rfl, by kernel_rfl, by kernel_rfl, trivial⟩ (by kernel_rfl) ⟨by kernel_rfl, trivial⟩) (nilW5 z (emp_ok.1 he))) (Fr.le.refl _) (by omega) (Sto.le.refl _)
  | false =>
    have h : (oSt (ev8 [] [] 1 (sq1 out8) [(1, .sc (.int .i64 5)), (2, .ptr 0 0)] (s0' z))).ok = okT [!emp (resL z 5)] true := by kernel_rfl
    refine TC.post (TC.seq (tc8 (φ := []) (nils := []) (gl := [(1, .sc (.int .i64 5)), (2, .ptr 0 0), (5, .sl 1 0 (resL z 5).length 1 true none)]) (n' := 2) (tl := s8' z (resL z 5)) (by kernel_rfl) (h.trans (by rw [he]; rfl)) ⟨by kernel_rfl, by kernel_rfl, by kernel_rfl, trivial⟩ (by kernel_rfl) ⟨by kernel_rfl, by kernel_rfl, trivial⟩) (slW5 z (resL z 5) (by omega) rfl)) (Fr.le.refl _) (Nat.le_refl 2) (stHas.le ⟨rfl, trivial⟩)
theorem at8_6 (z : Nat → Int) : TC Try.prog 68 b8 (frL' [(0, .agg (nums' .i64 31 z)), (1, .sc (.int .i64 6))]) 0 (stL []) .ret (frL' [(4, .sc (.bool true))]) 2 (stL (s0' z)) := by
  rw [b8_eq]
  have hl : (resL z 6).length ≤ 8 := by have := len6 z; exact Nat.le_trans this (by omega)
  refine TC.seq (first8 z 6) (TC.seq (tc8 (φ := []) (nils := []) (gl := [(1, .sc (.int .i64 6)), (2, .ptr 0 0)]) (n' := 1) (tl := s0' z) (by kernel_rfl) (by kernel_rfl) ⟨by kernel_rfl, by kernel_rfl, trivial⟩ (by kernel_rfl) ⟨by kernel_rfl, trivial⟩) ?_)
  cases he : emp (resL z 6) with
  | true =>
    have h : (oSt (ev8 [] [6] 1 (sq1 out8) [(1, .sc (.int .i64 6)), (2, .ptr 0 0)] (s0' z))).ok = okT [emp (resL z 6)] true := by kernel_rfl
    refine TC.post (TC.seq (tc8 (φ := []) (nils := [6]) (gl := [(1, .sc (.int .i64 6)), (2, .ptr 0 0), (5, nilV)]) (n' := 1) (tl := s0' z) (by kernel_rfl) (h.trans (by rw [he]; rfl)) ⟨by kernel_rfl, by kernel_rfl, by kernel_rfl, trivial⟩ (by kernel_rfl) ⟨by kernel_rfl, trivial⟩) (nilW6 z (emp_ok.1 he))) (Fr.le.refl _) (by omega) (Sto.le.refl _)
  | false =>
    have h : (oSt (ev8 [] [] 1 (sq1 out8) [(1, .sc (.int .i64 6)), (2, .ptr 0 0)] (s0' z))).ok = okT [!emp (resL z 6)] true := by kernel_rfl
    refine TC.post (TC.seq (tc8 (φ := []) (nils := []) (gl := [(1, .sc (.int .i64 6)), (2, .ptr 0 0), (5, .sl 1 0 (resL z 6).length 1 true none)]) (n' := 2) (tl := s8' z (resL z 6)) (by kernel_rfl) (h.trans (by rw [he]; rfl)) ⟨by kernel_rfl, by kernel_rfl, by kernel_rfl, trivial⟩ (by kernel_rfl) ⟨by kernel_rfl, by kernel_rfl, trivial⟩) (slW6 z (resL z 6) (by omega) rfl)) (Fr.le.refl _) (Nat.le_refl 2) (stHas.le ⟨rfl, trivial⟩)
theorem at8_7 (z : Nat → Int) : TC Try.prog 68 b8 (frL' [(0, .agg (nums' .i64 31 z)), (1, .sc (.int .i64 7))]) 0 (stL []) .ret (frL' [(4, .sc (.bool true))]) 2 (stL (s0' z)) := by
  rw [b8_eq]
  have hl : (resL z 7).length ≤ 8 := by have := len7 z; exact Nat.le_trans this (by omega)
  refine TC.seq (first8 z 7) (TC.seq (tc8 (φ := []) (nils := []) (gl := [(1, .sc (.int .i64 7)), (2, .ptr 0 0)]) (n' := 1) (tl := s0' z) (by kernel_rfl) (by kernel_rfl) ⟨by kernel_rfl, by kernel_rfl, trivial⟩ (by kernel_rfl) ⟨by kernel_rfl, trivial⟩) ?_)
  cases he : emp (resL z 7) with
  | true =>
    have h : (oSt (ev8 [] [7] 1 (sq1 out8) [(1, .sc (.int .i64 7)), (2, .ptr 0 0)] (s0' z))).ok = okT [emp (resL z 7)] true := by kernel_rfl
    refine TC.post (TC.seq (tc8 (φ := []) (nils := [7]) (gl := [(1, .sc (.int .i64 7)), (2, .ptr 0 0), (5, nilV)]) (n' := 1) (tl := s0' z) (by kernel_rfl) (h.trans (by rw [he]; rfl)) ⟨by kernel_rfl, by kernel_rfl, by kernel_rfl, trivial⟩ (by kernel_rfl) ⟨by kernel_rfl, trivial⟩) (nilW7 z (emp_ok.1 he))) (Fr.le.refl _) (by omega) (Sto.le.refl _)
  | false =>
    have h : (oSt (ev8 [] [] 1 (sq1 out8) [(1, .sc (.int .i64 7)), (2, .ptr 0 0)] (s0' z))).ok = okT [!emp (resL z 7)] true := by kernel_rfl
    refine TC.post (TC.seq (tc8 (φ := []) (nils := []) (gl := [(1, .sc (.int .i64 7)), (2, .ptr 0 0), (5, .sl 1 0 (resL z 7).length 1 true none)]) (n' := 2) (tl := s8' z (resL z 7)) (by kernel_rfl) (h.trans (by rw [he]; rfl)) ⟨by kernel_rfl, by kernel_rfl, by kernel_rfl, trivial⟩ (by kernel_rfl) ⟨by kernel_rfl, by kernel_rfl, trivial⟩) (slW7 z (resL z 7) (by omega) rfl)) (Fr.le.refl _) (Nat.le_refl 2) (stHas.le ⟨rfl, trivial⟩)
theorem at8_8 (z : Nat → Int) : TC Try.prog 68 b8 (frL' [(0, .agg (nums' .i64 31 z)), (1, .sc (.int .i64 8))]) 0 (stL []) .ret (frL' [(4, .sc (.bool true))]) 2 (stL (s0' z)) := by
  rw [b8_eq]
  have hl : (resL z 8).length ≤ 8 := by have := len8 z; exact Nat.le_trans this (by omega)
  refine TC.seq (first8 z 8) (TC.seq (tc8 (φ := []) (nils := []) (gl := [(1, .sc (.int .i64 8)), (2, .ptr 0 0)]) (n' := 1) (tl := s0' z) (by kernel_rfl) (by kernel_rfl) ⟨by kernel_rfl, by kernel_rfl, trivial⟩ (by kernel_rfl) ⟨by kernel_rfl, trivial⟩) ?_)
  cases he : emp (resL z 8) with
  | true =>
    have h : (oSt (ev8 [] [8] 1 (sq1 out8) [(1, .sc (.int .i64 8)), (2, .ptr 0 0)] (s0' z))).ok = okT [emp (resL z 8)] true := by kernel_rfl
    refine TC.post (TC.seq (tc8 (φ := []) (nils := [8]) (gl := [(1, .sc (.int .i64 8)), (2, .ptr 0 0), (5, nilV)]) (n' := 1) (tl := s0' z) (by kernel_rfl) (h.trans (by rw [he]; rfl)) ⟨by kernel_rfl, by kernel_rfl, by kernel_rfl, trivial⟩ (by kernel_rfl) ⟨by kernel_rfl, trivial⟩) (nilW8 z (emp_ok.1 he))) (Fr.le.refl _) (by omega) (Sto.le.refl _)
  | false =>
    have h : (oSt (ev8 [] [] 1 (sq1 out8) [(1, .sc (.int .i64 8)), (2, .ptr 0 0)] (s0' z))).ok = okT [!emp (resL z 8)] true := by kernel_rfl
    refine TC.post (TC.seq (tc8 (φ := []) (nils := []) (gl := [(1, .sc (.int .i64 8)), (2, .ptr 0 0), (5, .sl 1 0 (resL z 8).length 1 true none)]) (n' := 2) (tl := s8' z (resL z 8)) (by kernel_rfl) (h.trans (by rw [he]; rfl)) ⟨by kernel_rfl, by kernel_rfl, by kernel_rfl, trivial⟩ (by kernel_rfl) ⟨by kernel_rfl, by kernel_rfl, trivial⟩) (slW8 z (resL z 8) (by omega) rfl)) (Fr.le.refl _) (Nat.le_refl 2) (stHas.le ⟨rfl, trivial⟩)
theorem at8_9 (z : Nat → Int) : TC Try.prog 68 b8 (frL' [(0, .agg (nums' .i64 31 z)), (1, .sc (.int .i64 9))]) 0 (stL []) .ret (frL' [(4, .sc (.bool true))]) 2 (stL (s0' z)) := by
  rw [b8_eq]
  have hl : (resL z 9).length ≤ 8 := by have := len9 z; exact Nat.le_trans this (by omega)
  refine TC.seq (first8 z 9) (TC.seq (tc8 (φ := []) (nils := []) (gl := [(1, .sc (.int .i64 9)), (2, .ptr 0 0)]) (n' := 1) (tl := s0' z) (by kernel_rfl) (by kernel_rfl) ⟨by kernel_rfl, by kernel_rfl, trivial⟩ (by kernel_rfl) ⟨by kernel_rfl, trivial⟩) ?_)
  cases he : emp (resL z 9) with
  | true =>
    have h : (oSt (ev8 [] [9] 1 (sq1 out8) [(1, .sc (.int .i64 9)), (2, .ptr 0 0)] (s0' z))).ok = okT [emp (resL z 9)] true := by kernel_rfl
    refine TC.post (TC.seq (tc8 (φ := []) (nils := [9]) (gl := [(1, .sc (.int .i64 9)), (2, .ptr 0 0), (5, nilV)]) (n' := 1) (tl := s0' z) (by kernel_rfl) (h.trans (by rw [he]; rfl)) ⟨by kernel_rfl, by kernel_rfl, by kernel_rfl, trivial⟩ (by kernel_rfl) ⟨by kernel_rfl, trivial⟩) (nilW9 z (emp_ok.1 he))) (Fr.le.refl _) (by omega) (Sto.le.refl _)
  | false =>
    have h : (oSt (ev8 [] [] 1 (sq1 out8) [(1, .sc (.int .i64 9)), (2, .ptr 0 0)] (s0' z))).ok = okT [!emp (resL z 9)] true := by kernel_rfl
    refine TC.post (TC.seq (tc8 (φ := []) (nils := []) (gl := [(1, .sc (.int .i64 9)), (2, .ptr 0 0), (5, .sl 1 0 (resL z 9).length 1 true none)]) (n' := 2) (tl := s8' z (resL z 9)) (by kernel_rfl) (h.trans (by rw [he]; rfl)) ⟨by kernel_rfl, by kernel_rfl, by kernel_rfl, trivial⟩ (by kernel_rfl) ⟨by kernel_rfl, by kernel_rfl, trivial⟩) (slW9 z (resL z 9) (by omega) rfl)) (Fr.le.refl _) (Nat.le_refl 2) (stHas.le ⟨rfl, trivial⟩)
theorem at8_10 (z : Nat → Int) : TC Try.prog 68 b8 (frL' [(0, .agg (nums' .i64 31 z)), (1, .sc (.int .i64 10))]) 0 (stL []) .ret (frL' [(4, .sc (.bool true))]) 2 (stL (s0' z)) := by
  rw [b8_eq]
  have hl : (resL z 10).length ≤ 8 := by have := len10 z; exact Nat.le_trans this (by omega)
  refine TC.seq (first8 z 10) (TC.seq (tc8 (φ := []) (nils := []) (gl := [(1, .sc (.int .i64 10)), (2, .ptr 0 0)]) (n' := 1) (tl := s0' z) (by kernel_rfl) (by kernel_rfl) ⟨by kernel_rfl, by kernel_rfl, trivial⟩ (by kernel_rfl) ⟨by kernel_rfl, trivial⟩) ?_)
  cases he : emp (resL z 10) with
  | true =>
    have h : (oSt (ev8 [] [10] 1 (sq1 out8) [(1, .sc (.int .i64 10)), (2, .ptr 0 0)] (s0' z))).ok = okT [emp (resL z 10)] true := by kernel_rfl
    refine TC.post (TC.seq (tc8 (φ := []) (nils := [10]) (gl := [(1, .sc (.int .i64 10)), (2, .ptr 0 0), (5, nilV)]) (n' := 1) (tl := s0' z) (by kernel_rfl) (h.trans (by rw [he]; rfl)) ⟨by kernel_rfl, by kernel_rfl, by kernel_rfl, trivial⟩ (by kernel_rfl) ⟨by kernel_rfl, trivial⟩) (nilW10 z (emp_ok.1 he))) (Fr.le.refl _) (by omega) (Sto.le.refl _)
  | false =>
    have h : (oSt (ev8 [] [] 1 (sq1 out8) [(1, .sc (.int .i64 10)), (2, .ptr 0 0)] (s0' z))).ok = okT [!emp (resL z 10)] true := by kernel_rfl
    refine TC.post (TC.seq (tc8 (φ := []) (nils := []) (gl := [(1, .sc (.int .i64 10)), (2, .ptr 0 0), (5, .sl 1 0 (resL z 10).length 1 true none)]) (n' := 2) (tl := s8' z (resL z 10)) (by kernel_rfl) (h.trans (by rw [he]; rfl)) ⟨by kernel_rfl, by kernel_rfl, by kernel_rfl, trivial⟩ (by kernel_rfl) ⟨by kernel_rfl, by kernel_rfl, trivial⟩) (slW10 z (resL z 10) (by omega) rfl)) (Fr.le.refl _) (Nat.le_refl 2) (stHas.le ⟨rfl, trivial⟩)
theorem at8_11 (z : Nat → Int) : TC Try.prog 68 b8 (frL' [(0, .agg (nums' .i64 31 z)), (1, .sc (.int .i64 11))]) 0 (stL []) .ret (frL' [(4, .sc (.bool true))]) 2 (stL (s0' z)) := by
  rw [b8_eq]
  have hl : (resL z 11).length ≤ 8 := by have := len11 z; exact Nat.le_trans this (by omega)
  refine TC.seq (first8 z 11) (TC.seq (tc8 (φ := []) (nils := []) (gl := [(1, .sc (.int .i64 11)), (2, .ptr 0 0)]) (n' := 1) (tl := s0' z) (by kernel_rfl) (by kernel_rfl) ⟨by kernel_rfl, by kernel_rfl, trivial⟩ (by kernel_rfl) ⟨by kernel_rfl, trivial⟩) ?_)
  cases he : emp (resL z 11) with
  | true =>
    have h : (oSt (ev8 [] [11] 1 (sq1 out8) [(1, .sc (.int .i64 11)), (2, .ptr 0 0)] (s0' z))).ok = okT [emp (resL z 11)] true := by kernel_rfl
    refine TC.post (TC.seq (tc8 (φ := []) (nils := [11]) (gl := [(1, .sc (.int .i64 11)), (2, .ptr 0 0), (5, nilV)]) (n' := 1) (tl := s0' z) (by kernel_rfl) (h.trans (by rw [he]; rfl)) ⟨by kernel_rfl, by kernel_rfl, by kernel_rfl, trivial⟩ (by kernel_rfl) ⟨by kernel_rfl, trivial⟩) (nilW11 z (emp_ok.1 he))) (Fr.le.refl _) (by omega) (Sto.le.refl _)
  | false =>
    have h : (oSt (ev8 [] [] 1 (sq1 out8) [(1, .sc (.int .i64 11)), (2, .ptr 0 0)] (s0' z))).ok = okT [!emp (resL z 11)] true := by kernel_rfl
    refine TC.post (TC.seq (tc8 (φ := []) (nils := []) (gl := [(1, .sc (.int .i64 11)), (2, .ptr 0 0), (5, .sl 1 0 (resL z 11).length 1 true none)]) (n' := 2) (tl := s8' z (resL z 11)) (by kernel_rfl) (h.trans (by rw [he]; rfl)) ⟨by kernel_rfl, by kernel_rfl, by kernel_rfl, trivial⟩ (by kernel_rfl) ⟨by kernel_rfl, by kernel_rfl, trivial⟩) (slW11 z (resL z 11) (by omega) rfl)) (Fr.le.refl _) (Nat.le_refl 2) (stHas.le ⟨rfl, trivial⟩)
theorem at8_12 (z : Nat → Int) : TC Try.prog 68 b8 (frL' [(0, .agg (nums' .i64 31 z)), (1, .sc (.int .i64 12))]) 0 (stL []) .ret (frL' [(4, .sc (.bool true))]) 2 (stL (s0' z)) := by
  rw [b8_eq]
  have hl : (resL z 12).length ≤ 8 := by have := len12 z; exact Nat.le_trans this (by omega)
  refine TC.seq (first8 z 12) (TC.seq (tc8 (φ := []) (nils := []) (gl := [(1, .sc (.int .i64 12)), (2, .ptr 0 0)]) (n' := 1) (tl := s0' z) (by kernel_rfl) (by kernel_rfl) ⟨by kernel_rfl, by kernel_rfl, trivial⟩ (by kernel_rfl) ⟨by kernel_rfl, trivial⟩) ?_)
  cases he : emp (resL z 12) with
  | true =>
    have h : (oSt (ev8 [] [12] 1 (sq1 out8) [(1, .sc (.int .i64 12)), (2, .ptr 0 0)] (s0' z))).ok = okT [emp (resL z 12)] true := by kernel_rfl
    refine TC.post (TC.seq (tc8 (φ := []) (nils := [12]) (gl := [(1, .sc (.int .i64 12)), (2, .ptr 0 0), (5, nilV)]) (n' := 1) (tl := s0' z) (by kernel_rfl) (h.trans (by rw [he]; rfl)) ⟨by kernel_rfl, by kernel_rfl, by kernel_rfl, trivial⟩ (by kernel_rfl) ⟨by kernel_rfl, trivial⟩) (nilW12 z (emp_ok.1 he))) (Fr.le.refl _) (by omega) (Sto.le.refl _)
  | false =>
    have h : (oSt (ev8 [] [] 1 (sq1 out8) [(1, .sc (.int .i64 12)), (2, .ptr 0 0)] (s0' z))).ok = okT [!emp (resL z 12)] true := by kernel_rfl
    refine TC.post (TC.seq (tc8 (φ := []) (nils := []) (gl := [(1, .sc (.int .i64 12)), (2, .ptr 0 0), (5, .sl 1 0 (resL z 12).length 1 true none)]) (n' := 2) (tl := s8' z (resL z 12)) (by kernel_rfl) (h.trans (by rw [he]; rfl)) ⟨by kernel_rfl, by kernel_rfl, by kernel_rfl, trivial⟩ (by kernel_rfl) ⟨by kernel_rfl, by kernel_rfl, trivial⟩) (slW12 z (resL z 12) (by omega) rfl)) (Fr.le.refl _) (Nat.le_refl 2) (stHas.le ⟨rfl, trivial⟩)
theorem at8_13 (z : Nat → Int) : TC Try.prog 68 b8 (frL' [(0, .agg (nums' .i64 31 z)), (1, .sc (.int .i64 13))]) 0 (stL []) .ret (frL' [(4, .sc (.bool true))]) 2 (stL (s0' z)) := by
  rw [b8_eq]
  have hl : (resL z 13).length ≤ 8 := by have := len13 z; exact Nat.le_trans this (by omega)
  refine TC.seq (first8 z 13) (TC.seq (tc8 (φ := []) (nils := []) (gl := [(1, .sc (.int .i64 13)), (2, .ptr 0 0)]) (n' := 1) (tl := s0' z) (by kernel_rfl) (by kernel_rfl) ⟨by kernel_rfl, by kernel_rfl, trivial⟩ (by kernel_rfl) ⟨by kernel_rfl, trivial⟩) ?_)
  cases he : emp (resL z 13) with
  | true =>
    have h : (oSt (ev8 [] [13] 1 (sq1 out8) [(1, .sc (.int .i64 13)), (2, .ptr 0 0)] (s0' z))).ok = okT [emp (resL z 13)] true := by kernel_rfl
    refine TC.post (TC.seq (tc8 (φ := []) (nils := [13]) (gl := [(1, .sc (.int .i64 13)), (2, .ptr 0 0), (5, nilV)]) (n' := 1) (tl := s0' z) (by kernel_rfl) (h.trans (by rw [he]; rfl)) ⟨by kernel_rfl, by kernel_rfl, by kernel_rfl, trivial⟩ (by kernel_rfl) ⟨by kernel_rfl, trivial⟩) (nilW13 z (emp_ok.1 he))) (Fr.le.refl _) (by omega) (Sto.le.refl _)
  | false =>
    have h : (oSt (ev8 [] [] 1 (sq1 out8) [(1, .sc (.int .i64 13)), (2, .ptr 0 0)] (s0' z))).ok = okT [!emp (resL z 13)] true := by kernel_rfl
    refine TC.post (TC.seq (tc8 (φ := []) (nils := []) (gl := [(1, .sc (.int .i64 13)), (2, .ptr 0 0), (5, .sl 1 0 (resL z 13).length 1 true none)]) (n' := 2) (tl := s8' z (resL z 13)) (by kernel_rfl) (h.trans (by rw [he]; rfl)) ⟨by kernel_rfl, by kernel_rfl, by kernel_rfl, trivial⟩ (by kernel_rfl) ⟨by kernel_rfl, by kernel_rfl, trivial⟩) (slW13 z (resL z 13) (by omega) rfl)) (Fr.le.refl _) (Nat.le_refl 2) (stHas.le ⟨rfl, trivial⟩)
theorem at8_14 (z : Nat → Int) : TC Try.prog 68 b8 (frL' [(0, .agg (nums' .i64 31 z)), (1, .sc (.int .i64 14))]) 0 (stL []) .ret (frL' [(4, .sc (.bool true))]) 2 (stL (s0' z)) := by
  rw [b8_eq]
  have hl : (resL z 14).length ≤ 8 := by have := len14 z; exact Nat.le_trans this (by omega)
  refine TC.seq (first8 z 14) (TC.seq (tc8 (φ := []) (nils := []) (gl := [(1, .sc (.int .i64 14)), (2, .ptr 0 0)]) (n' := 1) (tl := s0' z) (by kernel_rfl) (by kernel_rfl) ⟨by kernel_rfl, by kernel_rfl, trivial⟩ (by kernel_rfl) ⟨by kernel_rfl, trivial⟩) ?_)
  cases he : emp (resL z 14) with
  | true =>
    have h : (oSt (ev8 [] [14] 1 (sq1 out8) [(1, .sc (.int .i64 14)), (2, .ptr 0 0)] (s0' z))).ok = okT [emp (resL z 14)] true := by kernel_rfl
    refine TC.post (TC.seq (tc8 (φ := []) (nils := [14]) (gl := [(1, .sc (.int .i64 14)), (2, .ptr 0 0), (5, nilV)]) (n' := 1) (tl := s0' z) (by kernel_rfl) (h.trans (by rw [he]; rfl)) ⟨by kernel_rfl, by kernel_rfl, by kernel_rfl, trivial⟩ (by kernel_rfl) ⟨by kernel_rfl, trivial⟩) (nilW14 z (emp_ok.1 he))) (Fr.le.refl _) (by omega) (Sto.le.refl _)
  | false =>
    have h : (oSt (ev8 [] [] 1 (sq1 out8) [(1, .sc (.int .i64 14)), (2, .ptr 0 0)] (s0' z))).ok = okT [!emp (resL z 14)] true := by kernel_rfl
    refine TC.post (TC.seq (tc8 (φ := []) (nils := []) (gl := [(1, .sc (.int .i64 14)), (2, .ptr 0 0), (5, .sl 1 0 (resL z 14).length 1 true none)]) (n' := 2) (tl := s8' z (resL z 14)) (by kernel_rfl) (h.trans (by rw [he]; rfl)) ⟨by kernel_rfl, by kernel_rfl, by kernel_rfl, trivial⟩ (by kernel_rfl) ⟨by kernel_rfl, by kernel_rfl, trivial⟩) (slW14 z (resL z 14) (by omega) rfl)) (Fr.le.refl _) (Nat.le_refl 2) (stHas.le ⟨rfl, trivial⟩)
theorem all8 (z : Nat → Int) (v : Int) : TC Try.prog 68 b8 (frL' [(0, .agg (nums' .i64 31 z)), (1, .sc (.int .i64 v))]) 0 (stL []) .ret (frL' [(4, .sc (.bool true))]) 2 (stL (s0' z)) := by
  rcases int_cases v 15 with ⟨m, rfl⟩ | ⟨i, hi, rfl⟩ | ⟨m, rfl⟩
  · exact low8 z m
  · match i, hi with
    | 0, _ => exact at8_0 z
    | 1, _ => exact at8_1 z
    | 2, _ => exact at8_2 z
    | 3, _ => exact at8_3 z
    | 4, _ => exact at8_4 z
    | 5, _ => exact at8_5 z
    | 6, _ => exact at8_6 z
    | 7, _ => exact at8_7 z
    | 8, _ => exact at8_8 z
    | 9, _ => exact at8_9 z
    | 10, _ => exact at8_10 z
    | 11, _ => exact at8_11 z
    | 12, _ => exact at8_12 z
    | 13, _ => exact at8_13 z
    | 14, _ => exact at8_14 z
  · exact high8 z m
theorem spec8 (z : Nat → Int) (v : Int) : Spec Try.prog 8 [.agg (nums' .i64 31 z), .sc (.int .i64 v)] 0 (stL []) (.sc (.bool true)) 2 (stL (s0' z)) := by
  refine Spec.enter (c := b8) Try.func8 (by kernel_rfl) (by kernel_rfl) (Nat.le_of_ble_eq_true (by kernel_rfl)) ?_ (.inr rfl) (fr' := frL' [(4, .sc (.bool true))]) (by kernel_rfl)
  exact TC.pre (fr1 := frL' [(0, .agg (nums' .i64 31 z)), (1, .sc (.int .i64 v))]) (all8 z v) (frHas.le ⟨rfl, rfl, trivial⟩)
theorem TreeOnce_calls (v0 v1 : Value) (W : World) (base : Nat) (h0 : Value.okWide Try.prog W .any base 32 v0) (h1 : Value.okWide Try.prog W .any base 3 v1) :
    Calls Try.prog 8 #[v0, v1] W (fun e W' => e = .returned (.bool true) ∧ Below W.heap.size W W') := by
  obtain ⟨z, rfl, _⟩ := open_nums (N := 31) (k := .i64) (by kernel_rfl) (by kernel_rfl) (by kernel_rfl) h0
  obtain ⟨l, rfl, _⟩ := open_num Try.underlying3 h1
  exact (spec8 z l).law (xs := [_, _]) ⟨R_nums _ _ _ _, R_int _ _ _, trivial⟩ W
end Go.Proofs.Ytnklnboglijcbaa.D
