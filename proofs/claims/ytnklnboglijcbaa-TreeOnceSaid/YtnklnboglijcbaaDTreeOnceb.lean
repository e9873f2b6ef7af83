/- Each member below a node is under just one node of those by which it is reached. Conditions: none beyond the statement's own. -/
import Derived.Test.YtnklnboglijcbaaDTreeOncea
namespace Go.Proofs.Ytnklnboglijcbaa.D
open Go Go.RowKit
set_option maxRecDepth 100000
set_option linter.unusedVariables false
theorem slR10_3 (z : Nat → Int) (L : List Int) (hL : L.length < 65536) (hLe : L = resL z 10) : TC Try.prog 68 o8 (frL' (fo8 10 (.sl 1 0 L.length 1 true none) 3)) 2 (stL (s8' z L)) .normal (frL' (fo8 10 (.sl 1 0 L.length 1 true none) 4)) 2 (stL (s8' z L)) := by
  rw [o8_eq]
  have hr := c10_3 z
  rw [← hLe] at hr
  have hc := hr
  cases hz : eqb (z 7) 0 with
  | false => exact TC.seq (slA3 z 10 L ) (TC.seq (TC.block (TC.seq (slB3 z 10 L ) (TC.seq (slI3 z 10 L hL 0 hc) (slD10_3_true_0 z L (by rw [hz]; rfl)))) (.inl rfl)) (slE3 z 10 L ))
  | true => exact TC.seq (slA3 z 10 L ) (TC.seq (TC.block (TC.seq (slB3 z 10 L ) (TC.seq (slI3 z 10 L hL 0 hc) (slD10_3_false_0 z L (by rw [hz]; rfl)))) (.inl rfl)) (slE3 z 10 L ))
theorem slD10_4_true_0 (z : Nat → Int) (L : List Int) (h : (!eqb (z 9) 0) = true) : TC Try.prog 68 (sq2 (sq2 in8)) (frL' (fe8 10 (.sl 1 0 L.length 1 true none) 4 0)) 2 (stL (s8' z L)) .normal (frL' (fo8 10 (.sl 1 0 L.length 1 true none) 4)) 2 (stL (s8' z L)) := by
  have e : (oSt (ev8 [(0, true), (1, true), (2, true), (3, true)] [] 2 (sq2 (sq2 in8)) (fe8 10 (.sl 1 0 L.length 1 true none) 4 0) (s8' z L))).ok = okT [(!eqb (z 9) 0) == true, (!eqb (z 9) 0) == true, (!eqb (z 9) 0) == true, (!eqb (z 9) 0) == true] true := by kernel_rfl
  exact tc8 (φ := [(0, true), (1, true), (2, true), (3, true)]) (nils := []) (by kernel_rfl) (e.trans (by rw [h]; rfl)) ⟨by kernel_rfl, by kernel_rfl, by kernel_rfl, by kernel_rfl, trivial⟩ (by kernel_rfl) ⟨by kernel_rfl, by kernel_rfl, trivial⟩
theorem slD10_4_false_0 (z : Nat → Int) (L : List Int) (h : (!eqb (z 9) 0) = false) : TC Try.prog 68 (sq2 (sq2 in8)) (frL' (fe8 10 (.sl 1 0 L.length 1 true none) 4 0)) 2 (stL (s8' z L)) .normal (frL' (fo8 10 (.sl 1 0 L.length 1 true none) 4)) 2 (stL (s8' z L)) := by
  have e : (oSt (ev8 [(0, false), (1, false), (2, false), (3, false)] [] 2 (sq2 (sq2 in8)) (fe8 10 (.sl 1 0 L.length 1 true none) 4 0) (s8' z L))).ok = okT [(!eqb (z 9) 0) == false, (!eqb (z 9) 0) == false, (!eqb (z 9) 0) == false, (!eqb (z 9) 0) == false] true := by kernel_rfl
  exact tc8 (φ := [(0, false), (1, false), (2, false), (3, false)]) (nils := []) (by kernel_rfl) (e.trans (by rw [h]; rfl)) ⟨by kernel_rfl, by kernel_rfl, by kernel_rfl, by kernel_rfl, trivial⟩ (by kernel_rfl) ⟨by kernel_rfl, by kernel_rfl, trivial⟩
theorem slR10_4 (z : Nat → Int) (L : List Int) (hL : L.length < 65536) (hLe : L = resL z 10) : TC Try.prog 68 o8 (frL' (fo8 10 (.sl 1 0 L.length 1 true none) 4)) 2 (stL (s8' z L)) .normal (frL' (fo8 10 (.sl 1 0 L.length 1 true none) 5)) 2 (stL (s8' z L)) := by
  rw [o8_eq]
  have hr := c10_4 z
  rw [← hLe] at hr
  have hc := hr
  cases hz : eqb (z 9) 0 with
  | false => exact TC.seq (slA4 z 10 L ) (TC.seq (TC.block (TC.seq (slB4 z 10 L ) (TC.seq (slI4 z 10 L hL 0 hc) (slD10_4_true_0 z L (by rw [hz]; rfl)))) (.inl rfl)) (slE4 z 10 L ))
  | true => exact TC.seq (slA4 z 10 L ) (TC.seq (TC.block (TC.seq (slB4 z 10 L ) (TC.seq (slI4 z 10 L hL 0 hc) (slD10_4_false_0 z L (by rw [hz]; rfl)))) (.inl rfl)) (slE4 z 10 L ))
theorem slD10_5_true_1 (z : Nat → Int) (L : List Int) (h : (!eqb (z 11) 0) = true) : TC Try.prog 68 (sq2 (sq2 in8)) (frL' (fe8 10 (.sl 1 0 L.length 1 true none) 5 1)) 2 (stL (s8' z L)) .normal (frL' (fo8 10 (.sl 1 0 L.length 1 true none) 5)) 2 (stL (s8' z L)) := by
  have e : (oSt (ev8 [(0, true), (1, true), (2, true), (3, true)] [] 2 (sq2 (sq2 in8)) (fe8 10 (.sl 1 0 L.length 1 true none) 5 1) (s8' z L))).ok = okT [(!eqb (z 11) 0) == true, (!eqb (z 11) 0) == true, (!eqb (z 11) 0) == true, (!eqb (z 11) 0) == true] true := by kernel_rfl
  exact tc8 (φ := [(0, true), (1, true), (2, true), (3, true)]) (nils := []) (by kernel_rfl) (e.trans (by rw [h]; rfl)) ⟨by kernel_rfl, by kernel_rfl, by kernel_rfl, by kernel_rfl, trivial⟩ (by kernel_rfl) ⟨by kernel_rfl, by kernel_rfl, trivial⟩
theorem slD10_5_false_0 (z : Nat → Int) (L : List Int) (h : (!eqb (z 11) 0) = false) : TC Try.prog 68 (sq2 (sq2 in8)) (frL' (fe8 10 (.sl 1 0 L.length 1 true none) 5 0)) 2 (stL (s8' z L)) .normal (frL' (fo8 10 (.sl 1 0 L.length 1 true none) 5)) 2 (stL (s8' z L)) := by
  have e : (oSt (ev8 [(0, false), (1, false), (2, false), (3, false)] [] 2 (sq2 (sq2 in8)) (fe8 10 (.sl 1 0 L.length 1 true none) 5 0) (s8' z L))).ok = okT [(!eqb (z 11) 0) == false, (!eqb (z 11) 0) == false, (!eqb (z 11) 0) == false, (!eqb (z 11) 0) == false] true := by kernel_rfl
  exact tc8 (φ := [(0, false), (1, false), (2, false), (3, false)]) (nils := []) (by kernel_rfl) (e.trans (by rw [h]; rfl)) ⟨by kernel_rfl, by kernel_rfl, by kernel_rfl, by kernel_rfl, trivial⟩ (by kernel_rfl) ⟨by kernel_rfl, by kernel_rfl, trivial⟩
theorem slD10_5_false_1 (z : Nat → Int) (L : List Int) (h : (!eqb (z 11) 0) = false) : TC Try.prog 68 (sq2 (sq2 in8)) (frL' (fe8 10 (.sl 1 0 L.length 1 true none) 5 1)) 2 (stL (s8' z L)) .normal (frL' (fo8 10 (.sl 1 0 L.length 1 true none) 5)) 2 (stL (s8' z L)) := by
  have e : (oSt (ev8 [(0, false), (1, false), (2, false), (3, false)] [] 2 (sq2 (sq2 in8)) (fe8 10 (.sl 1 0 L.length 1 true none) 5 1) (s8' z L))).ok = okT [(!eqb (z 11) 0) == false, (!eqb (z 11) 0) == false, (!eqb (z 11) 0) == false, (!eqb (z 11) 0) == false] true := by kernel_rfl
  exact tc8 (φ := [(0, false), (1, false), (2, false), (3, false)]) (nils := []) (by kernel_rfl) (e.trans (by rw [h]; rfl)) ⟨by kernel_rfl, by kernel_rfl, by kernel_rfl, by kernel_rfl, trivial⟩ (by kernel_rfl) ⟨by kernel_rfl, by kernel_rfl, trivial⟩
theorem slR10_5 (z : Nat → Int) (L : List Int) (hL : L.length < 65536) (hLe : L = resL z 10) : TC Try.prog 68 o8 (frL' (fo8 10 (.sl 1 0 L.length 1 true none) 5)) 2 (stL (s8' z L)) .normal (frL' (fo8 10 (.sl 1 0 L.length 1 true none) 6)) 2 (stL (s8' z L)) := by
  rw [o8_eq]
  have hr := c10_5 z
  rw [← hLe] at hr
  cases hz : eqb (z 11) 0 with
  | false =>
    have hc := hr.2 hz
    exact TC.seq (slA5 z 10 L ) (TC.seq (TC.block (TC.seq (slB5 z 10 L ) (TC.seq (slI5 z 10 L hL 1 hc) (slD10_5_true_1 z L (by rw [hz]; rfl)))) (.inl rfl)) (slE5 z 10 L ))
  | true =>
    rcases (show ucnt L 5 = 0 ∨ ucnt L 5 = 1 by omega) with hc | hc
    · exact TC.seq (slA5 z 10 L ) (TC.seq (TC.block (TC.seq (slB5 z 10 L ) (TC.seq (slI5 z 10 L hL 0 hc) (slD10_5_false_0 z L (by rw [hz]; rfl)))) (.inl rfl)) (slE5 z 10 L ))
    · exact TC.seq (slA5 z 10 L ) (TC.seq (TC.block (TC.seq (slB5 z 10 L ) (TC.seq (slI5 z 10 L hL 1 hc) (slD10_5_false_1 z L (by rw [hz]; rfl)))) (.inl rfl)) (slE5 z 10 L ))
theorem slD10_6_true_0 (z : Nat → Int) (L : List Int) (h : (!eqb (z 13) 0) = true) : TC Try.prog 68 (sq2 (sq2 in8)) (frL' (fe8 10 (.sl 1 0 L.length 1 true none) 6 0)) 2 (stL (s8' z L)) .normal (frL' (fo8 10 (.sl 1 0 L.length 1 true none) 6)) 2 (stL (s8' z L)) := by
  have e : (oSt (ev8 [(0, true), (1, true), (2, true), (3, true)] [] 2 (sq2 (sq2 in8)) (fe8 10 (.sl 1 0 L.length 1 true none) 6 0) (s8' z L))).ok = okT [(!eqb (z 13) 0) == true, (!eqb (z 13) 0) == true, (!eqb (z 13) 0) == true, (!eqb (z 13) 0) == true] true := by kernel_rfl
  exact tc8 (φ := [(0, true), (1, true), (2, true), (3, true)]) (nils := []) (by kernel_rfl) (e.trans (by rw [h]; rfl)) ⟨by kernel_rfl, by kernel_rfl, by kernel_rfl, by kernel_rfl, trivial⟩ (by kernel_rfl) ⟨by kernel_rfl, by kernel_rfl, trivial⟩
theorem slD10_6_false_0 (z : Nat → Int) (L : List Int) (h : (!eqb (z 13) 0) = false) : TC Try.prog 68 (sq2 (sq2 in8)) (frL' (fe8 10 (.sl 1 0 L.length 1 true none) 6 0)) 2 (stL (s8' z L)) .normal (frL' (fo8 10 (.sl 1 0 L.length 1 true none) 6)) 2 (stL (s8' z L)) := by
  have e : (oSt (ev8 [(0, false), (1, false), (2, false), (3, false)] [] 2 (sq2 (sq2 in8)) (fe8 10 (.sl 1 0 L.length 1 true none) 6 0) (s8' z L))).ok = okT [(!eqb (z 13) 0) == false, (!eqb (z 13) 0) == false, (!eqb (z 13) 0) == false, (!eqb (z 13) 0) == false] true := by kernel_rfl
  exact tc8 (φ := [(0, false), (1, false), (2, false), (3, false)]) (nils := []) (by kernel_rfl) (e.trans (by rw [h]; rfl)) ⟨by kernel_rfl, by kernel_rfl, by kernel_rfl, by kernel_rfl, trivial⟩ (by kernel_rfl) ⟨by kernel_rfl, by kernel_rfl, trivial⟩
theorem slR10_6 (z : Nat → Int) (L : List Int) (hL : L.length < 65536) (hLe : L = resL z 10) : TC Try.prog 68 o8 (frL' (fo8 10 (.sl 1 0 L.length 1 true none) 6)) 2 (stL (s8' z L)) .normal (frL' (fo8 10 (.sl 1 0 L.length 1 true none) 7)) 2 (stL (s8' z L)) := by
  rw [o8_eq]
  have hr := c10_6 z
  rw [← hLe] at hr
  have hc := hr
  cases hz : eqb (z 13) 0 with
  | false => exact TC.seq (slA6 z 10 L ) (TC.seq (TC.block (TC.seq (slB6 z 10 L ) (TC.seq (slI6 z 10 L hL 0 hc) (slD10_6_true_0 z L (by rw [hz]; rfl)))) (.inl rfl)) (slE6 z 10 L ))
  | true => exact TC.seq (slA6 z 10 L ) (TC.seq (TC.block (TC.seq (slB6 z 10 L ) (TC.seq (slI6 z 10 L hL 0 hc) (slD10_6_false_0 z L (by rw [hz]; rfl)))) (.inl rfl)) (slE6 z 10 L ))
theorem slD10_7_true_0 (z : Nat → Int) (L : List Int) (h : (!eqb (z 15) 0) = true) : TC Try.prog 68 (sq2 (sq2 in8)) (frL' (fe8 10 (.sl 1 0 L.length 1 true none) 7 0)) 2 (stL (s8' z L)) .normal (frL' (fo8 10 (.sl 1 0 L.length 1 true none) 7)) 2 (stL (s8' z L)) := by
  have e : (oSt (ev8 [(0, true), (1, true), (2, true), (3, true)] [] 2 (sq2 (sq2 in8)) (fe8 10 (.sl 1 0 L.length 1 true none) 7 0) (s8' z L))).ok = okT [(!eqb (z 15) 0) == true, (!eqb (z 15) 0) == true, (!eqb (z 15) 0) == true, (!eqb (z 15) 0) == true] true := by kernel_rfl
  exact tc8 (φ := [(0, true), (1, true), (2, true), (3, true)]) (nils := []) (by kernel_rfl) (e.trans (by rw [h]; rfl)) ⟨by kernel_rfl, by kernel_rfl, by kernel_rfl, by kernel_rfl, trivial⟩ (by kernel_rfl) ⟨by kernel_rfl, by kernel_rfl, trivial⟩
theorem slD10_7_false_0 (z : Nat → Int) (L : List Int) (h : (!eqb (z 15) 0) = false) : TC Try.prog 68 (sq2 (sq2 in8)) (frL' (fe8 10 (.sl 1 0 L.length 1 true none) 7 0)) 2 (stL (s8' z L)) .normal (frL' (fo8 10 (.sl 1 0 L.length 1 true none) 7)) 2 (stL (s8' z L)) := by
  have e : (oSt (ev8 [(0, false), (1, false), (2, false), (3, false)] [] 2 (sq2 (sq2 in8)) (fe8 10 (.sl 1 0 L.length 1 true none) 7 0) (s8' z L))).ok = okT [(!eqb (z 15) 0) == false, (!eqb (z 15) 0) == false, (!eqb (z 15) 0) == false, (!eqb (z 15) 0) == false] true := by kernel_rfl
  exact tc8 (φ := [(0, false), (1, false), (2, false), (3, false)]) (nils := []) (by kernel_rfl) (e.trans (by rw [h]; rfl)) ⟨by kernel_rfl, by kernel_rfl, by kernel_rfl, by kernel_rfl, trivial⟩ (by kernel_rfl) ⟨by kernel_rfl, by kernel_rfl, trivial⟩
theorem slR10_7 (z : Nat → Int) (L : List Int) (hL : L.length < 65536) (hLe : L = resL z 10) : TC Try.prog 68 o8 (frL' (fo8 10 (.sl 1 0 L.length 1 true none) 7)) 2 (stL (s8' z L)) .normal (frL' (fo8 10 (.sl 1 0 L.length 1 true none) 8)) 2 (stL (s8' z L)) := by
  rw [o8_eq]
  have hr := c10_7 z
  rw [← hLe] at hr
  have hc := hr
  cases hz : eqb (z 15) 0 with
  | false => exact TC.seq (slA7 z 10 L ) (TC.seq (TC.block (TC.seq (slB7 z 10 L ) (TC.seq (slI7 z 10 L hL 0 hc) (slD10_7_true_0 z L (by rw [hz]; rfl)))) (.inl rfl)) (slE7 z 10 L ))
  | true => exact TC.seq (slA7 z 10 L ) (TC.seq (TC.block (TC.seq (slB7 z 10 L ) (TC.seq (slI7 z 10 L hL 0 hc) (slD10_7_false_0 z L (by rw [hz]; rfl)))) (.inl rfl)) (slE7 z 10 L ))
theorem slW10 (z : Nat → Int) (L : List Int) (hL : L.length < 65536) (hLe : L = resL z 10) : TC Try.prog 68 (.seq (.seq (sq1 (sq1 (sq2 out8))) (.block 0 (.loop o8))) (sq2 (sq2 out8))) (frL' [(1, .sc (.int .i64 10)), (2, .ptr 0 0), (5, (.sl 1 0 L.length 1 true none))]) 2 (stL (s8' z L)) .ret (frL' [(4, .sc (.bool true))]) 2 (stL (s8' z L)) :=
  TC.seq (TC.seq (slS z 10 L ) (TC.block (TC.loop (k := 9) (TR.more (slR10_0 z L hL hLe) (TR.more (slR10_1 z L hL hLe) (TR.more (slR10_2 z L hL hLe) (TR.more (slR10_3 z L hL hLe) (TR.more (slR10_4 z L hL hLe) (TR.more (slR10_5 z L hL hLe) (TR.more (slR10_6 z L hL hLe) (TR.more (slR10_7 z L hL hLe) (TR.out (slX z 10 L ) (by simp))))))))))) (.inr rfl))) (slZ z L )
theorem slD11_0_true_0 (z : Nat → Int) (L : List Int) (h : (!eqb (z 1) 0) = true) : TC Try.prog 68 (sq2 (sq2 in8)) (frL' (fe8 11 (.sl 1 0 L.length 1 true none) 0 0)) 2 (stL (s8' z L)) .normal (frL' (fo8 11 (.sl 1 0 L.length 1 true none) 0)) 2 (stL (s8' z L)) := by
  have e : (oSt (ev8 [(0, true), (1, true), (2, true), (3, true)] [] 2 (sq2 (sq2 in8)) (fe8 11 (.sl 1 0 L.length 1 true none) 0 0) (s8' z L))).ok = okT [(!eqb (z 1) 0) == true, (!eqb (z 1) 0) == true, (!eqb (z 1) 0) == true, (!eqb (z 1) 0) == true] true := by kernel_rfl
  exact tc8 (φ := [(0, true), (1, true), (2, true), (3, true)]) (nils := []) (by kernel_rfl) (e.trans (by rw [h]; rfl)) ⟨by kernel_rfl, by kernel_rfl, by kernel_rfl, by kernel_rfl, trivial⟩ (by kernel_rfl) ⟨by kernel_rfl, by kernel_rfl, trivial⟩
theorem slD11_0_false_0 (z : Nat → Int) (L : List Int) (h : (!eqb (z 1) 0) = false) : TC Try.prog 68 (sq2 (sq2 in8)) (frL' (fe8 11 (.sl 1 0 L.length 1 true none) 0 0)) 2 (stL (s8' z L)) .normal (frL' (fo8 11 (.sl 1 0 L.length 1 true none) 0)) 2 (stL (s8' z L)) := by
  have e : (oSt (ev8 [(0, false), (1, false), (2, false), (3, false)] [] 2 (sq2 (sq2 in8)) (fe8 11 (.sl 1 0 L.length 1 true none) 0 0) (s8' z L))).ok = okT [(!eqb (z 1) 0) == false, (!eqb (z 1) 0) == false, (!eqb (z 1) 0) == false, (!eqb (z 1) 0) == false] true := by kernel_rfl
  exact tc8 (φ := [(0, false), (1, false), (2, false), (3, false)]) (nils := []) (by kernel_rfl) (e.trans (by rw [h]; rfl)) ⟨by kernel_rfl, by kernel_rfl, by kernel_rfl, by kernel_rfl, trivial⟩ (by kernel_rfl) ⟨by kernel_rfl, by kernel_rfl, trivial⟩
theorem slR11_0 (z : Nat → Int) (L : List Int) (hL : L.length < 65536) (hLe : L = resL z 11) : TC Try.prog 68 o8 (frL' (fo8 11 (.sl 1 0 L.length 1 true none) 0)) 2 (stL (s8' z L)) .normal (frL' (fo8 11 (.sl 1 0 L.length 1 true none) 1)) 2 (stL (s8' z L)) := by
  rw [o8_eq]
  have hr := c11_0 z
  rw [← hLe] at hr
  have hc := hr
  cases hz : eqb (z 1) 0 with
  | false => exact TC.seq (slA0 z 11 L ) (TC.seq (TC.block (TC.seq (slB0 z 11 L ) (TC.seq (slI0 z 11 L hL 0 hc) (slD11_0_true_0 z L (by rw [hz]; rfl)))) (.inl rfl)) (slE0 z 11 L ))
  | true => exact TC.seq (slA0 z 11 L ) (TC.seq (TC.block (TC.seq (slB0 z 11 L ) (TC.seq (slI0 z 11 L hL 0 hc) (slD11_0_false_0 z L (by rw [hz]; rfl)))) (.inl rfl)) (slE0 z 11 L ))
theorem slD11_1_true_0 (z : Nat → Int) (L : List Int) (h : (!eqb (z 3) 0) = true) : TC Try.prog 68 (sq2 (sq2 in8)) (frL' (fe8 11 (.sl 1 0 L.length 1 true none) 1 0)) 2 (stL (s8' z L)) .normal (frL' (fo8 11 (.sl 1 0 L.length 1 true none) 1)) 2 (stL (s8' z L)) := by
  have e : (oSt (ev8 [(0, true), (1, true), (2, true), (3, true)] [] 2 (sq2 (sq2 in8)) (fe8 11 (.sl 1 0 L.length 1 true none) 1 0) (s8' z L))).ok = okT [(!eqb (z 3) 0) == true, (!eqb (z 3) 0) == true, (!eqb (z 3) 0) == true, (!eqb (z 3) 0) == true] true := by kernel_rfl
  exact tc8 (φ := [(0, true), (1, true), (2, true), (3, true)]) (nils := []) (by kernel_rfl) (e.trans (by rw [h]; rfl)) ⟨by kernel_rfl, by kernel_rfl, by kernel_rfl, by kernel_rfl, trivial⟩ (by kernel_rfl) ⟨by kernel_rfl, by kernel_rfl, trivial⟩
theorem slD11_1_false_0 (z : Nat → Int) (L : List Int) (h : (!eqb (z 3) 0) = false) : TC Try.prog 68 (sq2 (sq2 in8)) (frL' (fe8 11 (.sl 1 0 L.length 1 true none) 1 0)) 2 (stL (s8' z L)) .normal (frL' (fo8 11 (.sl 1 0 L.length 1 true none) 1)) 2 (stL (s8' z L)) := by
  have e : (oSt (ev8 [(0, false), (1, false), (2, false), (3, false)] [] 2 (sq2 (sq2 in8)) (fe8 11 (.sl 1 0 L.length 1 true none) 1 0) (s8' z L))).ok = okT [(!eqb (z 3) 0) == false, (!eqb (z 3) 0) == false, (!eqb (z 3) 0) == false, (!eqb (z 3) 0) == false] true := by kernel_rfl
  exact tc8 (φ := [(0, false), (1, false), (2, false), (3, false)]) (nils := []) (by kernel_rfl) (e.trans (by rw [h]; rfl)) ⟨by kernel_rfl, by kernel_rfl, by kernel_rfl, by kernel_rfl, trivial⟩ (by kernel_rfl) ⟨by kernel_rfl, by kernel_rfl, trivial⟩
theorem slR11_1 (z : Nat → Int) (L : List Int) (hL : L.length < 65536) (hLe : L = resL z 11) : TC Try.prog 68 o8 (frL' (fo8 11 (.sl 1 0 L.length 1 true none) 1)) 2 (stL (s8' z L)) .normal (frL' (fo8 11 (.sl 1 0 L.length 1 true none) 2)) 2 (stL (s8' z L)) := by
  rw [o8_eq]
  have hr := c11_1 z
  rw [← hLe] at hr
  have hc := hr
  cases hz : eqb (z 3) 0 with
  | false => exact TC.seq (slA1 z 11 L ) (TC.seq (TC.block (TC.seq (slB1 z 11 L ) (TC.seq (slI1 z 11 L hL 0 hc) (slD11_1_true_0 z L (by rw [hz]; rfl)))) (.inl rfl)) (slE1 z 11 L ))
  | true => exact TC.seq (slA1 z 11 L ) (TC.seq (TC.block (TC.seq (slB1 z 11 L ) (TC.seq (slI1 z 11 L hL 0 hc) (slD11_1_false_0 z L (by rw [hz]; rfl)))) (.inl rfl)) (slE1 z 11 L ))
theorem slD11_2_true_0 (z : Nat → Int) (L : List Int) (h : (!eqb (z 5) 0) = true) : TC Try.prog 68 (sq2 (sq2 in8)) (frL' (fe8 11 (.sl 1 0 L.length 1 true none) 2 0)) 2 (stL (s8' z L)) .normal (frL' (fo8 11 (.sl 1 0 L.length 1 true none) 2)) 2 (stL (s8' z L)) := by
  have e : (oSt (ev8 [(0, true), (1, true), (2, true), (3, true)] [] 2 (sq2 (sq2 in8)) (fe8 11 (.sl 1 0 L.length 1 true none) 2 0) (s8' z L))).ok = okT [(!eqb (z 5) 0) == true, (!eqb (z 5) 0) == true, (!eqb (z 5) 0) == true, (!eqb (z 5) 0) == true] true := by kernel_rfl
  exact tc8 (φ := [(0, true), (1, true), (2, true), (3, true)]) (nils := []) (by kernel_rfl) (e.trans (by rw [h]; rfl)) ⟨by kernel_rfl, by kernel_rfl, by kernel_rfl, by kernel_rfl, trivial⟩ (by kernel_rfl) ⟨by kernel_rfl, by kernel_rfl, trivial⟩
theorem slD11_2_false_0 (z : Nat → Int) (L : List Int) (h : (!eqb (z 5) 0) = false) : TC Try.prog 68 (sq2 (sq2 in8)) (frL' (fe8 11 (.sl 1 0 L.length 1 true none) 2 0)) 2 (stL (s8' z L)) .normal (frL' (fo8 11 (.sl 1 0 L.length 1 true none) 2)) 2 (stL (s8' z L)) := by
  have e : (oSt (ev8 [(0, false), (1, false), (2, false), (3, false)] [] 2 (sq2 (sq2 in8)) (fe8 11 (.sl 1 0 L.length 1 true none) 2 0) (s8' z L))).ok = okT [(!eqb (z 5) 0) == false, (!eqb (z 5) 0) == false, (!eqb (z 5) 0) == false, (!eqb (z 5) 0) == false] true := by kernel_rfl
  exact tc8 (φ := [(0, false), (1, false), (2, false), (3, false)]) (nils := []) (by kernel_rfl) (e.trans (by rw [h]; rfl)) ⟨by kernel_rfl, by kernel_rfl, by kernel_rfl, by kernel_rfl, trivial⟩ (by kernel_rfl) ⟨by kernel_rfl, by kernel_rfl, trivial⟩
theorem slR11_2 (z : Nat → Int) (L : List Int) (hL : L.length < 65536) (hLe : L = resL z 11) : TC Try.prog 68 o8 (frL' (fo8 11 (.sl 1 0 L.length 1 true none) 2)) 2 (stL (s8' z L)) .normal (frL' (fo8 11 (.sl 1 0 L.length 1 true none) 3)) 2 (stL (s8' z L)) := by
  rw [o8_eq]
  have hr := c11_2 z
  rw [← hLe] at hr
  have hc := hr
  cases hz : eqb (z 5) 0 with
  | false => exact TC.seq (slA2 z 11 L ) (TC.seq (TC.block (TC.seq (slB2 z 11 L ) (TC.seq (slI2 z 11 L hL 0 hc) (slD11_2_true_0 z L (by rw [hz]; rfl)))) (.inl rfl)) (slE2 z 11 L ))
  | true => exact TC.seq (slA2 z 11 L ) (TC.seq (TC.block (TC.seq (slB2 z 11 L ) (TC.seq (slI2 z 11 L hL 0 hc) (slD11_2_false_0 z L (by rw [hz]; rfl)))) (.inl rfl)) (slE2 z 11 L ))
theorem slD11_3_true_0 (z : Nat → Int) (L : List Int) (h : (!eqb (z 7) 0) = true) : TC Try.prog 68 (sq2 (sq2 in8)) (frL' (fe8 11 (.sl 1 0 L.length 1 true none) 3 0)) 2 (stL (s8' z L)) .normal (frL' (fo8 11 (.sl 1 0 L.length 1 true none) 3)) 2 (stL (s8' z L)) := by
  have e : (oSt (ev8 [(0, true), (1, true), (2, true), (3, true)] [] 2 (sq2 (sq2 in8)) (fe8 11 (.sl 1 0 L.length 1 true none) 3 0) (s8' z L))).ok = okT [(!eqb (z 7) 0) == true, (!eqb (z 7) 0) == true, (!eqb (z 7) 0) == true, (!eqb (z 7) 0) == true] true := by kernel_rfl
  exact tc8 (φ := [(0, true), (1, true), (2, true), (3, true)]) (nils := []) (by kernel_rfl) (e.trans (by rw [h]; rfl)) ⟨by kernel_rfl, by kernel_rfl, by kernel_rfl, by kernel_rfl, trivial⟩ (by kernel_rfl) ⟨by kernel_rfl, by kernel_rfl, trivial⟩
theorem slD11_3_false_0 (z : Nat → Int) (L : List Int) (h : (!eqb (z 7) 0) = false) : TC Try.prog 68 (sq2 (sq2 in8)) (frL' (fe8 11 (.sl 1 0 L.length 1 true none) 3 0)) 2 (stL (s8' z L)) .normal (frL' (fo8 11 (.sl 1 0 L.length 1 true none) 3)) 2 (stL (s8' z L)) := by
  have e : (oSt (ev8 [(0, false), (1, false), (2, false), (3, false)] [] 2 (sq2 (sq2 in8)) (fe8 11 (.sl 1 0 L.length 1 true none) 3 0) (s8' z L))).ok = okT [(!eqb (z 7) 0) == false, (!eqb (z 7) 0) == false, (!eqb (z 7) 0) == false, (!eqb (z 7) 0) == false] true := by kernel_rfl
  exact tc8 (φ := [(0, false), (1, false), (2, false), (3, false)]) (nils := []) (by kernel_rfl) (e.trans (by rw [h]; rfl)) ⟨by kernel_rfl, by kernel_rfl, by kernel_rfl, by kernel_rfl, trivial⟩ (by kernel_rfl) ⟨by kernel_rfl, by kernel_rfl, trivial⟩
theorem slR11_3 (z : Nat → Int) (L : List Int) (hL : L.length < 65536) (hLe : L = resL z 11) : TC Try.prog 68 o8 (frL' (fo8 11 (.sl 1 0 L.length 1 true none) 3)) 2 (stL (s8' z L)) .normal (frL' (fo8 11 (.sl 1 0 L.length 1 true none) 4)) 2 (stL (s8' z L)) := by
  rw [o8_eq]
  have hr := c11_3 z
  rw [← hLe] at hr
  have hc := hr
  cases hz : eqb (z 7) 0 with
  | false => exact TC.seq (slA3 z 11 L ) (TC.seq (TC.block (TC.seq (slB3 z 11 L ) (TC.seq (slI3 z 11 L hL 0 hc) (slD11_3_true_0 z L (by rw [hz]; rfl)))) (.inl rfl)) (slE3 z 11 L ))
  | true => exact TC.seq (slA3 z 11 L ) (TC.seq (TC.block (TC.seq (slB3 z 11 L ) (TC.seq (slI3 z 11 L hL 0 hc) (slD11_3_false_0 z L (by rw [hz]; rfl)))) (.inl rfl)) (slE3 z 11 L ))
theorem slD11_4_true_1 (z : Nat → Int) (L : List Int) (h : (!eqb (z 9) 0) = true) : TC Try.prog 68 (sq2 (sq2 in8)) (frL' (fe8 11 (.sl 1 0 L.length 1 true none) 4 1)) 2 (stL (s8' z L)) .normal (frL' (fo8 11 (.sl 1 0 L.length 1 true none) 4)) 2 (stL (s8' z L)) := by
  have e : (oSt (ev8 [(0, true), (1, true), (2, true), (3, true)] [] 2 (sq2 (sq2 in8)) (fe8 11 (.sl 1 0 L.length 1 true none) 4 1) (s8' z L))).ok = okT [(!eqb (z 9) 0) == true, (!eqb (z 9) 0) == true, (!eqb (z 9) 0) == true, (!eqb (z 9) 0) == true] true := by kernel_rfl
  exact tc8 (φ := [(0, true), (1, true), (2, true), (3, true)]) (nils := []) (by kernel_rfl) (e.trans (by rw [h]; rfl)) ⟨by kernel_rfl, by kernel_rfl, by kernel_rfl, by kernel_rfl, trivial⟩ (by kernel_rfl) ⟨by kernel_rfl, by kernel_rfl, trivial⟩
theorem slD11_4_false_0 (z : Nat → Int) (L : List Int) (h : (!eqb (z 9) 0) = false) : TC Try.prog 68 (sq2 (sq2 in8)) (frL' (fe8 11 (.sl 1 0 L.length 1 true none) 4 0)) 2 (stL (s8' z L)) .normal (frL' (fo8 11 (.sl 1 0 L.length 1 true none) 4)) 2 (stL (s8' z L)) := by
  have e : (oSt (ev8 [(0, false), (1, false), (2, false), (3, false)] [] 2 (sq2 (sq2 in8)) (fe8 11 (.sl 1 0 L.length 1 true none) 4 0) (s8' z L))).ok = okT [(!eqb (z 9) 0) == false, (!eqb (z 9) 0) == false, (!eqb (z 9) 0) == false, (!eqb (z 9) 0) == false] true := by kernel_rfl
  exact tc8 (φ := [(0, false), (1, false), (2, false), (3, false)]) (nils := []) (by kernel_rfl) (e.trans (by rw [h]; rfl)) ⟨by kernel_rfl, by kernel_rfl, by kernel_rfl, by kernel_rfl, trivial⟩ (by kernel_rfl) ⟨by kernel_rfl, by kernel_rfl, trivial⟩
theorem slD11_4_false_1 (z : Nat → Int) (L : List Int) (h : (!eqb (z 9) 0) = false) : TC Try.prog 68 (sq2 (sq2 in8)) (frL' (fe8 11 (.sl 1 0 L.length 1 true none) 4 1)) 2 (stL (s8' z L)) .normal (frL' (fo8 11 (.sl 1 0 L.length 1 true none) 4)) 2 (stL (s8' z L)) := by
  have e : (oSt (ev8 [(0, false), (1, false), (2, false), (3, false)] [] 2 (sq2 (sq2 in8)) (fe8 11 (.sl 1 0 L.length 1 true none) 4 1) (s8' z L))).ok = okT [(!eqb (z 9) 0) == false, (!eqb (z 9) 0) == false, (!eqb (z 9) 0) == false, (!eqb (z 9) 0) == false] true := by kernel_rfl
  exact tc8 (φ := [(0, false), (1, false), (2, false), (3, false)]) (nils := []) (by kernel_rfl) (e.trans (by rw [h]; rfl)) ⟨by kernel_rfl, by kernel_rfl, by kernel_rfl, by kernel_rfl, trivial⟩ (by kernel_rfl) ⟨by kernel_rfl, by kernel_rfl, trivial⟩
theorem slR11_4 (z : Nat → Int) (L : List Int) (hL : L.length < 65536) (hLe : L = resL z 11) : TC Try.prog 68 o8 (frL' (fo8 11 (.sl 1 0 L.length 1 true none) 4)) 2 (stL (s8' z L)) .normal (frL' (fo8 11 (.sl 1 0 L.length 1 true none) 5)) 2 (stL (s8' z L)) := by
  rw [o8_eq]
  have hr := c11_4 z
  rw [← hLe] at hr
  cases hz : eqb (z 9) 0 with
  | false =>
    have hc := hr.2 hz
    exact TC.seq (slA4 z 11 L ) (TC.seq (TC.block (TC.seq (slB4 z 11 L ) (TC.seq (slI4 z 11 L hL 1 hc) (slD11_4_true_1 z L (by rw [hz]; rfl)))) (.inl rfl)) (slE4 z 11 L ))
  | true =>
    rcases (show ucnt L 4 = 0 ∨ ucnt L 4 = 1 by omega) with hc | hc
    · exact TC.seq (slA4 z 11 L ) (TC.seq (TC.block (TC.seq (slB4 z 11 L ) (TC.seq (slI4 z 11 L hL 0 hc) (slD11_4_false_0 z L (by rw [hz]; rfl)))) (.inl rfl)) (slE4 z 11 L ))
    · exact TC.seq (slA4 z 11 L ) (TC.seq (TC.block (TC.seq (slB4 z 11 L ) (TC.seq (slI4 z 11 L hL 1 hc) (slD11_4_false_1 z L (by rw [hz]; rfl)))) (.inl rfl)) (slE4 z 11 L ))
theorem slD11_5_true_1 (z : Nat → Int) (L : List Int) (h : (!eqb (z 11) 0) = true) : TC Try.prog 68 (sq2 (sq2 in8)) (frL' (fe8 11 (.sl 1 0 L.length 1 true none) 5 1)) 2 (stL (s8' z L)) .normal (frL' (fo8 11 (.sl 1 0 L.length 1 true none) 5)) 2 (stL (s8' z L)) := by
  have e : (oSt (ev8 [(0, true), (1, true), (2, true), (3, true)] [] 2 (sq2 (sq2 in8)) (fe8 11 (.sl 1 0 L.length 1 true none) 5 1) (s8' z L))).ok = okT [(!eqb (z 11) 0) == true, (!eqb (z 11) 0) == true, (!eqb (z 11) 0) == true, (!eqb (z 11) 0) == true] true := by kernel_rfl
  exact tc8 (φ := [(0, true), (1, true), (2, true), (3, true)]) (nils := []) (by kernel_rfl) (e.trans (by rw [h]; rfl)) ⟨by kernel_rfl, by kernel_rfl, by kernel_rfl, by kernel_rfl, trivial⟩ (by kernel_rfl) ⟨by kernel_rfl, by kernel_rfl, trivial⟩
theorem slD11_5_false_0 (z : Nat → Int) (L : List Int) (h : (!eqb (z 11) 0) = false) : TC Try.prog 68 (sq2 (sq2 in8)) (frL' (fe8 11 (.sl 1 0 L.length 1 true none) 5 0)) 2 (stL (s8' z L)) .normal (frL' (fo8 11 (.sl 1 0 L.length 1 true none) 5)) 2 (stL (s8' z L)) := by
  have e : (oSt (ev8 [(0, false), (1, false), (2, false), (3, false)] [] 2 (sq2 (sq2 in8)) (fe8 11 (.sl 1 0 L.length 1 true none) 5 0) (s8' z L))).ok = okT [(!eqb (z 11) 0) == false, (!eqb (z 11) 0) == false, (!eqb (z 11) 0) == false, (!eqb (z 11) 0) == false] true := by kernel_rfl
  exact tc8 (φ := [(0, false), (1, false), (2, false), (3, false)]) (nils := []) (by kernel_rfl) (e.trans (by rw [h]; rfl)) ⟨by kernel_rfl, by kernel_rfl, by kernel_rfl, by kernel_rfl, trivial⟩ (by kernel_rfl) ⟨by kernel_rfl, by kernel_rfl, trivial⟩
theorem slD11_5_false_1 (z : Nat → Int) (L : List Int) (h : (!eqb (z 11) 0) = false) : TC Try.prog 68 (sq2 (sq2 in8)) (frL' (fe8 11 (.sl 1 0 L.length 1 true none) 5 1)) 2 (stL (s8' z L)) .normal (frL' (fo8 11 (.sl 1 0 L.length 1 true none) 5)) 2 (stL (s8' z L)) := by
  have e : (oSt (ev8 [(0, false), (1, false), (2, false), (3, false)] [] 2 (sq2 (sq2 in8)) (fe8 11 (.sl 1 0 L.length 1 true none) 5 1) (s8' z L))).ok = okT [(!eqb (z 11) 0) == false, (!eqb (z 11) 0) == false, (!eqb (z 11) 0) == false, (!eqb (z 11) 0) == false] true := by kernel_rfl
  exact tc8 (φ := [(0, false), (1, false), (2, false), (3, false)]) (nils := []) (by kernel_rfl) (e.trans (by rw [h]; rfl)) ⟨by kernel_rfl, by kernel_rfl, by kernel_rfl, by kernel_rfl, trivial⟩ (by kernel_rfl) ⟨by kernel_rfl, by kernel_rfl, trivial⟩
theorem slR11_5 (z : Nat → Int) (L : List Int) (hL : L.length < 65536) (hLe : L = resL z 11) : TC Try.prog 68 o8 (frL' (fo8 11 (.sl 1 0 L.length 1 true none) 5)) 2 (stL (s8' z L)) .normal (frL' (fo8 11 (.sl 1 0 L.length 1 true none) 6)) 2 (stL (s8' z L)) := by
  rw [o8_eq]
  have hr := c11_5 z
  rw [← hLe] at hr
  cases hz : eqb (z 11) 0 with
  | false =>
    have hc := hr.2 hz
    exact TC.seq (slA5 z 11 L ) (TC.seq (TC.block (TC.seq (slB5 z 11 L ) (TC.seq (slI5 z 11 L hL 1 hc) (slD11_5_true_1 z L (by rw [hz]; rfl)))) (.inl rfl)) (slE5 z 11 L ))
  | true =>
    rcases (show ucnt L 5 = 0 ∨ ucnt L 5 = 1 by omega) with hc | hc
    · exact TC.seq (slA5 z 11 L ) (TC.seq (TC.block (TC.seq (slB5 z 11 L ) (TC.seq (slI5 z 11 L hL 0 hc) (slD11_5_false_0 z L (by rw [hz]; rfl)))) (.inl rfl)) (slE5 z 11 L ))
    · exact TC.seq (slA5 z 11 L ) (TC.seq (TC.block (TC.seq (slB5 z 11 L ) (TC.seq (slI5 z 11 L hL 1 hc) (slD11_5_false_1 z L (by rw [hz]; rfl)))) (.inl rfl)) (slE5 z 11 L ))
theorem slD11_6_true_1 (z : Nat → Int) (L : List Int) (h : (!eqb (z 13) 0) = true) : TC Try.prog 68 (sq2 (sq2 in8)) (frL' (fe8 11 (.sl 1 0 L.length 1 true none) 6 1)) 2 (stL (s8' z L)) .normal (frL' (fo8 11 (.sl 1 0 L.length 1 true none) 6)) 2 (stL (s8' z L)) := by
  have e : (oSt (ev8 [(0, true), (1, true), (2, true), (3, true)] [] 2 (sq2 (sq2 in8)) (fe8 11 (.sl 1 0 L.length 1 true none) 6 1) (s8' z L))).ok = okT [(!eqb (z 13) 0) == true, (!eqb (z 13) 0) == true, (!eqb (z 13) 0) == true, (!eqb (z 13) 0) == true] true := by kernel_rfl
  exact tc8 (φ := [(0, true), (1, true), (2, true), (3, true)]) (nils := []) (by kernel_rfl) (e.trans (by rw [h]; rfl)) ⟨by kernel_rfl, by kernel_rfl, by kernel_rfl, by kernel_rfl, trivial⟩ (by kernel_rfl) ⟨by kernel_rfl, by kernel_rfl, trivial⟩
theorem slD11_6_false_0 (z : Nat → Int) (L : List Int) (h : (!eqb (z 13) 0) = false) : TC Try.prog 68 (sq2 (sq2 in8)) (frL' (fe8 11 (.sl 1 0 L.length 1 true none) 6 0)) 2 (stL (s8' z L)) .normal (frL' (fo8 11 (.sl 1 0 L.length 1 true none) 6)) 2 (stL (s8' z L)) := by
  have e : (oSt (ev8 [(0, false), (1, false), (2, false), (3, false)] [] 2 (sq2 (sq2 in8)) (fe8 11 (.sl 1 0 L.length 1 true none) 6 0) (s8' z L))).ok = okT [(!eqb (z 13) 0) == false, (!eqb (z 13) 0) == false, (!eqb (z 13) 0) == false, (!eqb (z 13) 0) == false] true := by kernel_rfl
  exact tc8 (φ := [(0, false), (1, false), (2, false), (3, false)]) (nils := []) (by kernel_rfl) (e.trans (by rw [h]; rfl)) ⟨by kernel_rfl, by kernel_rfl, by kernel_rfl, by kernel_rfl, trivial⟩ (by kernel_rfl) ⟨by kernel_rfl, by kernel_rfl, trivial⟩
theorem slD11_6_false_1 (z : Nat → Int) (L : List Int) (h : (!eqb (z 13) 0) = false) : TC Try.prog 68 (sq2 (sq2 in8)) (frL' (fe8 11 (.sl 1 0 L.length 1 true none) 6 1)) 2 (stL (s8' z L)) .normal (frL' (fo8 11 (.sl 1 0 L.length 1 true none) 6)) 2 (stL (s8' z L)) := by
  have e : (oSt (ev8 [(0, false), (1, false), (2, false), (3, false)] [] 2 (sq2 (sq2 in8)) (fe8 11 (.sl 1 0 L.length 1 true none) 6 1) (s8' z L))).ok = okT [(!eqb (z 13) 0) == false, (!eqb (z 13) 0) == false, (!eqb (z 13) 0) == false, (!eqb (z 13) 0) == false] true := by kernel_rfl
  exact tc8 (φ := [(0, false), (1, false), (2, false), (3, false)]) (nils := []) (by kernel_rfl) (e.trans (by rw [h]; rfl)) ⟨by kernel_rfl, by kernel_rfl, by kernel_rfl, by kernel_rfl, trivial⟩ (by kernel_rfl) ⟨by kernel_rfl, by kernel_rfl, trivial⟩
theorem slR11_6 (z : Nat → Int) (L : List Int) (hL : L.length < 65536) (hLe : L = resL z 11) : TC Try.prog 68 o8 (frL' (fo8 11 (.sl 1 0 L.length 1 true none) 6)) 2 (stL (s8' z L)) .normal (frL' (fo8 11 (.sl 1 0 L.length 1 true none) 7)) 2 (stL (s8' z L)) := by
  rw [o8_eq]
  have hr := c11_6 z
  rw [← hLe] at hr
  cases hz : eqb (z 13) 0 with
  | false =>
    have hc := hr.2 hz
    exact TC.seq (slA6 z 11 L ) (TC.seq (TC.block (TC.seq (slB6 z 11 L ) (TC.seq (slI6 z 11 L hL 1 hc) (slD11_6_true_1 z L (by rw [hz]; rfl)))) (.inl rfl)) (slE6 z 11 L ))
  | true =>
    rcases (show ucnt L 6 = 0 ∨ ucnt L 6 = 1 by omega) with hc | hc
    · exact TC.seq (slA6 z 11 L ) (TC.seq (TC.block (TC.seq (slB6 z 11 L ) (TC.seq (slI6 z 11 L hL 0 hc) (slD11_6_false_0 z L (by rw [hz]; rfl)))) (.inl rfl)) (slE6 z 11 L ))
    · exact TC.seq (slA6 z 11 L ) (TC.seq (TC.block (TC.seq (slB6 z 11 L ) (TC.seq (slI6 z 11 L hL 1 hc) (slD11_6_false_1 z L (by rw [hz]; rfl)))) (.inl rfl)) (slE6 z 11 L ))
theorem slD11_7_true_1 (z : Nat → Int) (L : List Int) (h : (!eqb (z 15) 0) = true) : TC Try.prog 68 (sq2 (sq2 in8)) (frL' (fe8 11 (.sl 1 0 L.length 1 true none) 7 1)) 2 (stL (s8' z L)) .normal (frL' (fo8 11 (.sl 1 0 L.length 1 true none) 7)) 2 (stL (s8' z L)) := by
  have e : (oSt (ev8 [(0, true), (1, true), (2, true), (3, true)] [] 2 (sq2 (sq2 in8)) (fe8 11 (.sl 1 0 L.length 1 true none) 7 1) (s8' z L))).ok = okT [(!eqb (z 15) 0) == true, (!eqb (z 15) 0) == true, (!eqb (z 15) 0) == true, (!eqb (z 15) 0) == true] true := by kernel_rfl
  exact tc8 (φ := [(0, true), (1, true), (2, true), (3, true)]) (nils := []) (by kernel_rfl) (e.trans (by rw [h]; rfl)) ⟨by kernel_rfl, by kernel_rfl, by kernel_rfl, by kernel_rfl, trivial⟩ (by kernel_rfl) ⟨by kernel_rfl, by kernel_rfl, trivial⟩
theorem slD11_7_false_0 (z : Nat → Int) (L : List Int) (h : (!eqb (z 15) 0) = false) : TC Try.prog 68 (sq2 (sq2 in8)) (frL' (fe8 11 (.sl 1 0 L.length 1 true none) 7 0)) 2 (stL (s8' z L)) .normal (frL' (fo8 11 (.sl 1 0 L.length 1 true none) 7)) 2 (stL (s8' z L)) := by
  have e : (oSt (ev8 [(0, false), (1, false), (2, false), (3, false)] [] 2 (sq2 (sq2 in8)) (fe8 11 (.sl 1 0 L.length 1 true none) 7 0) (s8' z L))).ok = okT [(!eqb (z 15) 0) == false, (!eqb (z 15) 0) == false, (!eqb (z 15) 0) == false, (!eqb (z 15) 0) == false] true := by kernel_rfl
  exact tc8 (φ := [(0, false), (1, false), (2, false), (3, false)]) (nils := []) (by kernel_rfl) (e.trans (by rw [h]; rfl)) ⟨by kernel_rfl, by kernel_rfl, by kernel_rfl, by kernel_rfl, trivial⟩ (by kernel_rfl) ⟨by kernel_rfl, by kernel_rfl, trivial⟩
theorem slD11_7_false_1 (z : Nat → Int) (L : List Int) (h : (!eqb (z 15) 0) = false) : TC Try.prog 68 (sq2 (sq2 in8)) (frL' (fe8 11 (.sl 1 0 L.length 1 true none) 7 1)) 2 (stL (s8' z L)) .normal (frL' (fo8 11 (.sl 1 0 L.length 1 true none) 7)) 2 (stL (s8' z L)) := by
  have e : (oSt (ev8 [(0, false), (1, false), (2, false), (3, false)] [] 2 (sq2 (sq2 in8)) (fe8 11 (.sl 1 0 L.length 1 true none) 7 1) (s8' z L))).ok = okT [(!eqb (z 15) 0) == false, (!eqb (z 15) 0) == false, (!eqb (z 15) 0) == false, (!eqb (z 15) 0) == false] true := by kernel_rfl
  exact tc8 (φ := [(0, false), (1, false), (2, false), (3, false)]) (nils := []) (by kernel_rfl) (e.trans (by rw [h]; rfl)) ⟨by kernel_rfl, by kernel_rfl, by kernel_rfl, by kernel_rfl, trivial⟩ (by kernel_rfl) ⟨by kernel_rfl, by kernel_rfl, trivial⟩
theorem slR11_7 (z : Nat → Int) (L : List Int) (hL : L.length < 65536) (hLe : L = resL z 11) : TC Try.prog 68 o8 (frL' (fo8 11 (.sl 1 0 L.length 1 true none) 7)) 2 (stL (s8' z L)) .normal (frL' (fo8 11 (.sl 1 0 L.length 1 true none) 8)) 2 (stL (s8' z L)) := by
  rw [o8_eq]
  have hr := c11_7 z
  rw [← hLe] at hr
  cases hz : eqb (z 15) 0 with
  | false =>
    have hc := hr.2 hz
    exact TC.seq (slA7 z 11 L ) (TC.seq (TC.block (TC.seq (slB7 z 11 L ) (TC.seq (slI7 z 11 L hL 1 hc) (slD11_7_true_1 z L (by rw [hz]; rfl)))) (.inl rfl)) (slE7 z 11 L ))
  | true =>
    rcases (show ucnt L 7 = 0 ∨ ucnt L 7 = 1 by omega) with hc | hc
    · exact TC.seq (slA7 z 11 L ) (TC.seq (TC.block (TC.seq (slB7 z 11 L ) (TC.seq (slI7 z 11 L hL 0 hc) (slD11_7_false_0 z L (by rw [hz]; rfl)))) (.inl rfl)) (slE7 z 11 L ))
    · exact TC.seq (slA7 z 11 L ) (TC.seq (TC.block (TC.seq (slB7 z 11 L ) (TC.seq (slI7 z 11 L hL 1 hc) (slD11_7_false_1 z L (by rw [hz]; rfl)))) (.inl rfl)) (slE7 z 11 L ))
theorem slW11 (z : Nat → Int) (L : List Int) (hL : L.length < 65536) (hLe : L = resL z 11) : TC Try.prog 68 (.seq (.seq (sq1 (sq1 (sq2 out8))) (.block 0 (.loop o8))) (sq2 (sq2 out8))) (frL' [(1, .sc (.int .i64 11)), (2, .ptr 0 0), (5, (.sl 1 0 L.length 1 true none))]) 2 (stL (s8' z L)) .ret (frL' [(4, .sc (.bool true))]) 2 (stL (s8' z L)) :=
  TC.seq (TC.seq (slS z 11 L ) (TC.block (TC.loop (k := 9) (TR.more (slR11_0 z L hL hLe) (TR.more (slR11_1 z L hL hLe) (TR.more (slR11_2 z L hL hLe) (TR.more (slR11_3 z L hL hLe) (TR.more (slR11_4 z L hL hLe) (TR.more (slR11_5 z L hL hLe) (TR.more (slR11_6 z L hL hLe) (TR.more (slR11_7 z L hL hLe) (TR.out (slX z 11 L ) (by simp))))))))))) (.inr rfl))) (slZ z L )
theorem slD12_0_true_0 (z : Nat → Int) (L : List Int) (h : (!eqb (z 1) 0) = true) : TC Try.prog 68 (sq2 (sq2 in8)) (frL' (fe8 12 (.sl 1 0 L.length 1 true none) 0 0)) 2 (stL (s8' z L)) .normal (frL' (fo8 12 (.sl 1 0 L.length 1 true none) 0)) 2 (stL (s8' z L)) := by
  have e : (oSt (ev8 [(0, true), (1, true), (2, true), (3, true)] [] 2 (sq2 (sq2 in8)) (fe8 12 (.sl 1 0 L.length 1 true none) 0 0) (s8' z L))).ok = okT [(!eqb (z 1) 0) == true, (!eqb (z 1) 0) == true, (!eqb (z 1) 0) == true, (!eqb (z 1) 0) == true] true := by kernel_rfl
  exact tc8 (φ := [(0, true), (1, true), (2, true), (3, true)]) (nils := []) (by kernel_rfl) (e.trans (by rw [h]; rfl)) ⟨by kernel_rfl, by kernel_rfl, by kernel_rfl, by kernel_rfl, trivial⟩ (by kernel_rfl) ⟨by kernel_rfl, by kernel_rfl, trivial⟩
theorem slD12_0_false_0 (z : Nat → Int) (L : List Int) (h : (!eqb (z 1) 0) = false) : TC Try.prog 68 (sq2 (sq2 in8)) (frL' (fe8 12 (.sl 1 0 L.length 1 true none) 0 0)) 2 (stL (s8' z L)) .normal (frL' (fo8 12 (.sl 1 0 L.length 1 true none) 0)) 2 (stL (s8' z L)) := by
  have e : (oSt (ev8 [(0, false), (1, false), (2, false), (3, false)] [] 2 (sq2 (sq2 in8)) (fe8 12 (.sl 1 0 L.length 1 true none) 0 0) (s8' z L))).ok = okT [(!eqb (z 1) 0) == false, (!eqb (z 1) 0) == false, (!eqb (z 1) 0) == false, (!eqb (z 1) 0) == false] true := by kernel_rfl
  exact tc8 (φ := [(0, false), (1, false), (2, false), (3, false)]) (nils := []) (by kernel_rfl) (e.trans (by rw [h]; rfl)) ⟨by kernel_rfl, by kernel_rfl, by kernel_rfl, by kernel_rfl, trivial⟩ (by kernel_rfl) ⟨by kernel_rfl, by kernel_rfl, trivial⟩
theorem slR12_0 (z : Nat → Int) (L : List Int) (hL : L.length < 65536) (hLe : L = resL z 12) : TC Try.prog 68 o8 (frL' (fo8 12 (.sl 1 0 L.length 1 true none) 0)) 2 (stL (s8' z L)) .normal (frL' (fo8 12 (.sl 1 0 L.length 1 true none) 1)) 2 (stL (s8' z L)) := by
  rw [o8_eq]
  have hr := c12_0 z
  rw [← hLe] at hr
  have hc := hr
  cases hz : eqb (z 1) 0 with
  | false => exact TC.seq (slA0 z 12 L ) (TC.seq (TC.block (TC.seq (slB0 z 12 L ) (TC.seq (slI0 z 12 L hL 0 hc) (slD12_0_true_0 z L (by rw [hz]; rfl)))) (.inl rfl)) (slE0 z 12 L ))
  | true => exact TC.seq (slA0 z 12 L ) (TC.seq (TC.block (TC.seq (slB0 z 12 L ) (TC.seq (slI0 z 12 L hL 0 hc) (slD12_0_false_0 z L (by rw [hz]; rfl)))) (.inl rfl)) (slE0 z 12 L ))
theorem slD12_1_true_0 (z : Nat → Int) (L : List Int) (h : (!eqb (z 3) 0) = true) : TC Try.prog 68 (sq2 (sq2 in8)) (frL' (fe8 12 (.sl 1 0 L.length 1 true none) 1 0)) 2 (stL (s8' z L)) .normal (frL' (fo8 12 (.sl 1 0 L.length 1 true none) 1)) 2 (stL (s8' z L)) := by
  have e : (oSt (ev8 [(0, true), (1, true), (2, true), (3, true)] [] 2 (sq2 (sq2 in8)) (fe8 12 (.sl 1 0 L.length 1 true none) 1 0) (s8' z L))).ok = okT [(!eqb (z 3) 0) == true, (!eqb (z 3) 0) == true, (!eqb (z 3) 0) == true, (!eqb (z 3) 0) == true] true := by kernel_rfl
  exact tc8 (φ := [(0, true), (1, true), (2, true), (3, true)]) (nils := []) (by kernel_rfl) (e.trans (by rw [h]; rfl)) ⟨by kernel_rfl, by kernel_rfl, by kernel_rfl, by kernel_rfl, trivial⟩ (by kernel_rfl) ⟨by kernel_rfl, by kernel_rfl, trivial⟩
theorem slD12_1_false_0 (z : Nat → Int) (L : List Int) (h : (!eqb (z 3) 0) = false) : TC Try.prog 68 (sq2 (sq2 in8)) (frL' (fe8 12 (.sl 1 0 L.length 1 true none) 1 0)) 2 (stL (s8' z L)) .normal (frL' (fo8 12 (.sl 1 0 L.length 1 true none) 1)) 2 (stL (s8' z L)) := by
  have e : (oSt (ev8 [(0, false), (1, false), (2, false), (3, false)] [] 2 (sq2 (sq2 in8)) (fe8 12 (.sl 1 0 L.length 1 true none) 1 0) (s8' z L))).ok = okT [(!eqb (z 3) 0) == false, (!eqb (z 3) 0) == false, (!eqb (z 3) 0) == false, (!eqb (z 3) 0) == false] true := by kernel_rfl
  exact tc8 (φ := [(0, false), (1, false), (2, false), (3, false)]) (nils := []) (by kernel_rfl) (e.trans (by rw [h]; rfl)) ⟨by kernel_rfl, by kernel_rfl, by kernel_rfl, by kernel_rfl, trivial⟩ (by kernel_rfl) ⟨by kernel_rfl, by kernel_rfl, trivial⟩
theorem slR12_1 (z : Nat → Int) (L : List Int) (hL : L.length < 65536) (hLe : L = resL z 12) : TC Try.prog 68 o8 (frL' (fo8 12 (.sl 1 0 L.length 1 true none) 1)) 2 (stL (s8' z L)) .normal (frL' (fo8 12 (.sl 1 0 L.length 1 true none) 2)) 2 (stL (s8' z L)) := by
  rw [o8_eq]
  have hr := c12_1 z
  rw [← hLe] at hr
  have hc := hr
  cases hz : eqb (z 3) 0 with
  | false => exact TC.seq (slA1 z 12 L ) (TC.seq (TC.block (TC.seq (slB1 z 12 L ) (TC.seq (slI1 z 12 L hL 0 hc) (slD12_1_true_0 z L (by rw [hz]; rfl)))) (.inl rfl)) (slE1 z 12 L ))
  | true => exact TC.seq (slA1 z 12 L ) (TC.seq (TC.block (TC.seq (slB1 z 12 L ) (TC.seq (slI1 z 12 L hL 0 hc) (slD12_1_false_0 z L (by rw [hz]; rfl)))) (.inl rfl)) (slE1 z 12 L ))
theorem slD12_2_true_0 (z : Nat → Int) (L : List Int) (h : (!eqb (z 5) 0) = true) : TC Try.prog 68 (sq2 (sq2 in8)) (frL' (fe8 12 (.sl 1 0 L.length 1 true none) 2 0)) 2 (stL (s8' z L)) .normal (frL' (fo8 12 (.sl 1 0 L.length 1 true none) 2)) 2 (stL (s8' z L)) := by
  have e : (oSt (ev8 [(0, true), (1, true), (2, true), (3, true)] [] 2 (sq2 (sq2 in8)) (fe8 12 (.sl 1 0 L.length 1 true none) 2 0) (s8' z L))).ok = okT [(!eqb (z 5) 0) == true, (!eqb (z 5) 0) == true, (!eqb (z 5) 0) == true, (!eqb (z 5) 0) == true] true := by kernel_rfl
  exact tc8 (φ := [(0, true), (1, true), (2, true), (3, true)]) (nils := []) (by kernel_rfl) (e.trans (by rw [h]; rfl)) ⟨by kernel_rfl, by kernel_rfl, by kernel_rfl, by kernel_rfl, trivial⟩ (by kernel_rfl) ⟨by kernel_rfl, by kernel_rfl, trivial⟩
theorem slD12_2_false_0 (z : Nat → Int) (L : List Int) (h : (!eqb (z 5) 0) = false) : TC Try.prog 68 (sq2 (sq2 in8)) (frL' (fe8 12 (.sl 1 0 L.length 1 true none) 2 0)) 2 (stL (s8' z L)) .normal (frL' (fo8 12 (.sl 1 0 L.length 1 true none) 2)) 2 (stL (s8' z L)) := by
  have e : (oSt (ev8 [(0, false), (1, false), (2, false), (3, false)] [] 2 (sq2 (sq2 in8)) (fe8 12 (.sl 1 0 L.length 1 true none) 2 0) (s8' z L))).ok = okT [(!eqb (z 5) 0) == false, (!eqb (z 5) 0) == false, (!eqb (z 5) 0) == false, (!eqb (z 5) 0) == false] true := by kernel_rfl
  exact tc8 (φ := [(0, false), (1, false), (2, false), (3, false)]) (nils := []) (by kernel_rfl) (e.trans (by rw [h]; rfl)) ⟨by kernel_rfl, by kernel_rfl, by kernel_rfl, by kernel_rfl, trivial⟩ (by kernel_rfl) ⟨by kernel_rfl, by kernel_rfl, trivial⟩
theorem slR12_2 (z : Nat → Int) (L : List Int) (hL : L.length < 65536) (hLe : L = resL z 12) : TC Try.prog 68 o8 (frL' (fo8 12 (.sl 1 0 L.length 1 true none) 2)) 2 (stL (s8' z L)) .normal (frL' (fo8 12 (.sl 1 0 L.length 1 true none) 3)) 2 (stL (s8' z L)) := by
  rw [o8_eq]
  have hr := c12_2 z
  rw [← hLe] at hr
  have hc := hr
  cases hz : eqb (z 5) 0 with
  | false => exact TC.seq (slA2 z 12 L ) (TC.seq (TC.block (TC.seq (slB2 z 12 L ) (TC.seq (slI2 z 12 L hL 0 hc) (slD12_2_true_0 z L (by rw [hz]; rfl)))) (.inl rfl)) (slE2 z 12 L ))
  | true => exact TC.seq (slA2 z 12 L ) (TC.seq (TC.block (TC.seq (slB2 z 12 L ) (TC.seq (slI2 z 12 L hL 0 hc) (slD12_2_false_0 z L (by rw [hz]; rfl)))) (.inl rfl)) (slE2 z 12 L ))
theorem slD12_3_true_0 (z : Nat → Int) (L : List Int) (h : (!eqb (z 7) 0) = true) : TC Try.prog 68 (sq2 (sq2 in8)) (frL' (fe8 12 (.sl 1 0 L.length 1 true none) 3 0)) 2 (stL (s8' z L)) .normal (frL' (fo8 12 (.sl 1 0 L.length 1 true none) 3)) 2 (stL (s8' z L)) := by
  have e : (oSt (ev8 [(0, true), (1, true), (2, true), (3, true)] [] 2 (sq2 (sq2 in8)) (fe8 12 (.sl 1 0 L.length 1 true none) 3 0) (s8' z L))).ok = okT [(!eqb (z 7) 0) == true, (!eqb (z 7) 0) == true, (!eqb (z 7) 0) == true, (!eqb (z 7) 0) == true] true := by kernel_rfl
  exact tc8 (φ := [(0, true), (1, true), (2, true), (3, true)]) (nils := []) (by kernel_rfl) (e.trans (by rw [h]; rfl)) ⟨by kernel_rfl, by kernel_rfl, by kernel_rfl, by kernel_rfl, trivial⟩ (by kernel_rfl) ⟨by kernel_rfl, by kernel_rfl, trivial⟩
theorem slD12_3_false_0 (z : Nat → Int) (L : List Int) (h : (!eqb (z 7) 0) = false) : TC Try.prog 68 (sq2 (sq2 in8)) (frL' (fe8 12 (.sl 1 0 L.length 1 true none) 3 0)) 2 (stL (s8' z L)) .normal (frL' (fo8 12 (.sl 1 0 L.length 1 true none) 3)) 2 (stL (s8' z L)) := by
  have e : (oSt (ev8 [(0, false), (1, false), (2, false), (3, false)] [] 2 (sq2 (sq2 in8)) (fe8 12 (.sl 1 0 L.length 1 true none) 3 0) (s8' z L))).ok = okT [(!eqb (z 7) 0) == false, (!eqb (z 7) 0) == false, (!eqb (z 7) 0) == false, (!eqb (z 7) 0) == false] true := by kernel_rfl
  exact tc8 (φ := [(0, false), (1, false), (2, false), (3, false)]) (nils := []) (by kernel_rfl) (e.trans (by rw [h]; rfl)) ⟨by kernel_rfl, by kernel_rfl, by kernel_rfl, by kernel_rfl, trivial⟩ (by kernel_rfl) ⟨by kernel_rfl, by kernel_rfl, trivial⟩
theorem slR12_3 (z : Nat → Int) (L : List Int) (hL : L.length < 65536) (hLe : L = resL z 12) : TC Try.prog 68 o8 (frL' (fo8 12 (.sl 1 0 L.length 1 true none) 3)) 2 (stL (s8' z L)) .normal (frL' (fo8 12 (.sl 1 0 L.length 1 true none) 4)) 2 (stL (s8' z L)) := by
  rw [o8_eq]
  have hr := c12_3 z
  rw [← hLe] at hr
  have hc := hr
  cases hz : eqb (z 7) 0 with
  | false => exact TC.seq (slA3 z 12 L ) (TC.seq (TC.block (TC.seq (slB3 z 12 L ) (TC.seq (slI3 z 12 L hL 0 hc) (slD12_3_true_0 z L (by rw [hz]; rfl)))) (.inl rfl)) (slE3 z 12 L ))
  | true => exact TC.seq (slA3 z 12 L ) (TC.seq (TC.block (TC.seq (slB3 z 12 L ) (TC.seq (slI3 z 12 L hL 0 hc) (slD12_3_false_0 z L (by rw [hz]; rfl)))) (.inl rfl)) (slE3 z 12 L ))
theorem slD12_4_true_0 (z : Nat → Int) (L : List Int) (h : (!eqb (z 9) 0) = true) : TC Try.prog 68 (sq2 (sq2 in8)) (frL' (fe8 12 (.sl 1 0 L.length 1 true none) 4 0)) 2 (stL (s8' z L)) .normal (frL' (fo8 12 (.sl 1 0 L.length 1 true none) 4)) 2 (stL (s8' z L)) := by
  have e : (oSt (ev8 [(0, true), (1, true), (2, true), (3, true)] [] 2 (sq2 (sq2 in8)) (fe8 12 (.sl 1 0 L.length 1 true none) 4 0) (s8' z L))).ok = okT [(!eqb (z 9) 0) == true, (!eqb (z 9) 0) == true, (!eqb (z 9) 0) == true, (!eqb (z 9) 0) == true] true := by kernel_rfl
  exact tc8 (φ := [(0, true), (1, true), (2, true), (3, true)]) (nils := []) (by kernel_rfl) (e.trans (by rw [h]; rfl)) ⟨by kernel_rfl, by kernel_rfl, by kernel_rfl, by kernel_rfl, trivial⟩ (by kernel_rfl) ⟨by kernel_rfl, by kernel_rfl, trivial⟩
theorem slD12_4_false_0 (z : Nat → Int) (L : List Int) (h : (!eqb (z 9) 0) = false) : TC Try.prog 68 (sq2 (sq2 in8)) (frL' (fe8 12 (.sl 1 0 L.length 1 true none) 4 0)) 2 (stL (s8' z L)) .normal (frL' (fo8 12 (.sl 1 0 L.length 1 true none) 4)) 2 (stL (s8' z L)) := by
  have e : (oSt (ev8 [(0, false), (1, false), (2, false), (3, false)] [] 2 (sq2 (sq2 in8)) (fe8 12 (.sl 1 0 L.length 1 true none) 4 0) (s8' z L))).ok = okT [(!eqb (z 9) 0) == false, (!eqb (z 9) 0) == false, (!eqb (z 9) 0) == false, (!eqb (z 9) 0) == false] true := by kernel_rfl
  exact tc8 (φ := [(0, false), (1, false), (2, false), (3, false)]) (nils := []) (by kernel_rfl) (e.trans (by rw [h]; rfl)) ⟨by kernel_rfl, by kernel_rfl, by kernel_rfl, by kernel_rfl, trivial⟩ (by kernel_rfl) ⟨by kernel_rfl, by kernel_rfl, trivial⟩
theorem slR12_4 (z : Nat → Int) (L : List Int) (hL : L.length < 65536) (hLe : L = resL z 12) : TC Try.prog 68 o8 (frL' (fo8 12 (.sl 1 0 L.length 1 true none) 4)) 2 (stL (s8' z L)) .normal (frL' (fo8 12 (.sl 1 0 L.length 1 true none) 5)) 2 (stL (s8' z L)) := by
  rw [o8_eq]
  have hr := c12_4 z
  rw [← hLe] at hr
  have hc := hr
  cases hz : eqb (z 9) 0 with
  | false => exact TC.seq (slA4 z 12 L ) (TC.seq (TC.block (TC.seq (slB4 z 12 L ) (TC.seq (slI4 z 12 L hL 0 hc) (slD12_4_true_0 z L (by rw [hz]; rfl)))) (.inl rfl)) (slE4 z 12 L ))
  | true => exact TC.seq (slA4 z 12 L ) (TC.seq (TC.block (TC.seq (slB4 z 12 L ) (TC.seq (slI4 z 12 L hL 0 hc) (slD12_4_false_0 z L (by rw [hz]; rfl)))) (.inl rfl)) (slE4 z 12 L ))
theorem slD12_5_true_0 (z : Nat → Int) (L : List Int) (h : (!eqb (z 11) 0) = true) : TC Try.prog 68 (sq2 (sq2 in8)) (frL' (fe8 12 (.sl 1 0 L.length 1 true none) 5 0)) 2 (stL (s8' z L)) .normal (frL' (fo8 12 (.sl 1 0 L.length 1 true none) 5)) 2 (stL (s8' z L)) := by
  have e : (oSt (ev8 [(0, true), (1, true), (2, true), (3, true)] [] 2 (sq2 (sq2 in8)) (fe8 12 (.sl 1 0 L.length 1 true none) 5 0) (s8' z L))).ok = okT [(!eqb (z 11) 0) == true, (!eqb (z 11) 0) == true, (!eqb (z 11) 0) == true, (!eqb (z 11) 0) == true] true := by kernel_rfl
  exact tc8 (φ := [(0, true), (1, true), (2, true), (3, true)]) (nils := []) (by kernel_rfl) (e.trans (by rw [h]; rfl)) ⟨by kernel_rfl, by kernel_rfl, by kernel_rfl, by kernel_rfl, trivial⟩ (by kernel_rfl) ⟨by kernel_rfl, by kernel_rfl, trivial⟩
theorem slD12_5_false_0 (z : Nat → Int) (L : List Int) (h : (!eqb (z 11) 0) = false) : TC Try.prog 68 (sq2 (sq2 in8)) (frL' (fe8 12 (.sl 1 0 L.length 1 true none) 5 0)) 2 (stL (s8' z L)) .normal (frL' (fo8 12 (.sl 1 0 L.length 1 true none) 5)) 2 (stL (s8' z L)) := by
  have e : (oSt (ev8 [(0, false), (1, false), (2, false), (3, false)] [] 2 (sq2 (sq2 in8)) (fe8 12 (.sl 1 0 L.length 1 true none) 5 0) (s8' z L))).ok = okT [(!eqb (z 11) 0) == false, (!eqb (z 11) 0) == false, (!eqb (z 11) 0) == false, (!eqb (z 11) 0) == false] true := by kernel_rfl
  exact tc8 (φ := [(0, false), (1, false), (2, false), (3, false)]) (nils := []) (by kernel_rfl) (e.trans (by rw [h]; rfl)) ⟨by kernel_rfl, by kernel_rfl, by kernel_rfl, by kernel_rfl, trivial⟩ (by kernel_rfl) ⟨by kernel_rfl, by kernel_rfl, trivial⟩
theorem slR12_5 (z : Nat → Int) (L : List Int) (hL : L.length < 65536) (hLe : L = resL z 12) : TC Try.prog 68 o8 (frL' (fo8 12 (.sl 1 0 L.length 1 true none) 5)) 2 (stL (s8' z L)) .normal (frL' (fo8 12 (.sl 1 0 L.length 1 true none) 6)) 2 (stL (s8' z L)) := by
  rw [o8_eq]
  have hr := c12_5 z
  rw [← hLe] at hr
  have hc := hr
  cases hz : eqb (z 11) 0 with
  | false => exact TC.seq (slA5 z 12 L ) (TC.seq (TC.block (TC.seq (slB5 z 12 L ) (TC.seq (slI5 z 12 L hL 0 hc) (slD12_5_true_0 z L (by rw [hz]; rfl)))) (.inl rfl)) (slE5 z 12 L ))
  | true => exact TC.seq (slA5 z 12 L ) (TC.seq (TC.block (TC.seq (slB5 z 12 L ) (TC.seq (slI5 z 12 L hL 0 hc) (slD12_5_false_0 z L (by rw [hz]; rfl)))) (.inl rfl)) (slE5 z 12 L ))
theorem slD12_6_true_1 (z : Nat → Int) (L : List Int) (h : (!eqb (z 13) 0) = true) : TC Try.prog 68 (sq2 (sq2 in8)) (frL' (fe8 12 (.sl 1 0 L.length 1 true none) 6 1)) 2 (stL (s8' z L)) .normal (frL' (fo8 12 (.sl 1 0 L.length 1 true none) 6)) 2 (stL (s8' z L)) := by
  have e : (oSt (ev8 [(0, true), (1, true), (2, true), (3, true)] [] 2 (sq2 (sq2 in8)) (fe8 12 (.sl 1 0 L.length 1 true none) 6 1) (s8' z L))).ok = okT [(!eqb (z 13) 0) == true, (!eqb (z 13) 0) == true, (!eqb (z 13) 0) == true, (!eqb (z 13) 0) == true] true := by kernel_rfl
  exact tc8 (φ := [(0, true), (1, true), (2, true), (3, true)]) (nils := []) (by kernel_rfl) (e.trans (by rw [h]; rfl)) ⟨by kernel_rfl, by kernel_rfl, by kernel_rfl, by kernel_rfl, trivial⟩ (by kernel_rfl) ⟨by kernel_rfl, by kernel_rfl, trivial⟩
theorem slD12_6_false_0 (z : Nat → Int) (L : List Int) (h : (!eqb (z 13) 0) = false) : TC Try.prog 68 (sq2 (sq2 in8)) (frL' (fe8 12 (.sl 1 0 L.length 1 true none) 6 0)) 2 (stL (s8' z L)) .normal (frL' (fo8 12 (.sl 1 0 L.length 1 true none) 6)) 2 (stL (s8' z L)) := by
  have e : (oSt (ev8 [(0, false), (1, false), (2, false), (3, false)] [] 2 (sq2 (sq2 in8)) (fe8 12 (.sl 1 0 L.length 1 true none) 6 0) (s8' z L))).ok = okT [(!eqb (z 13) 0) == false, (!eqb (z 13) 0) == false, (!eqb (z 13) 0) == false, (!eqb (z 13) 0) == false] true := by kernel_rfl
  exact tc8 (φ := [(0, false), (1, false), (2, false), (3, false)]) (nils := []) (by kernel_rfl) (e.trans (by rw [h]; rfl)) ⟨by kernel_rfl, by kernel_rfl, by kernel_rfl, by kernel_rfl, trivial⟩ (by kernel_rfl) ⟨by kernel_rfl, by kernel_rfl, trivial⟩
theorem slD12_6_false_1 (z : Nat → Int) (L : List Int) (h : (!eqb (z 13) 0) = false) : TC Try.prog 68 (sq2 (sq2 in8)) (frL' (fe8 12 (.sl 1 0 L.length 1 true none) 6 1)) 2 (stL (s8' z L)) .normal (frL' (fo8 12 (.sl 1 0 L.length 1 true none) 6)) 2 (stL (s8' z L)) := by
  have e : (oSt (ev8 [(0, false), (1, false), (2, false), (3, false)] [] 2 (sq2 (sq2 in8)) (fe8 12 (.sl 1 0 L.length 1 true none) 6 1) (s8' z L))).ok = okT [(!eqb (z 13) 0) == false, (!eqb (z 13) 0) == false, (!eqb (z 13) 0) == false, (!eqb (z 13) 0) == false] true := by kernel_rfl
  exact tc8 (φ := [(0, false), (1, false), (2, false), (3, false)]) (nils := []) (by kernel_rfl) (e.trans (by rw [h]; rfl)) ⟨by kernel_rfl, by kernel_rfl, by kernel_rfl, by kernel_rfl, trivial⟩ (by kernel_rfl) ⟨by kernel_rfl, by kernel_rfl, trivial⟩
theorem slR12_6 (z : Nat → Int) (L : List Int) (hL : L.length < 65536) (hLe : L = resL z 12) : TC Try.prog 68 o8 (frL' (fo8 12 (.sl 1 0 L.length 1 true none) 6)) 2 (stL (s8' z L)) .normal (frL' (fo8 12 (.sl 1 0 L.length 1 true none) 7)) 2 (stL (s8' z L)) := by
  rw [o8_eq]
  have hr := c12_6 z
  rw [← hLe] at hr
  cases hz : eqb (z 13) 0 with
  | false =>
    have hc := hr.2 hz
    exact TC.seq (slA6 z 12 L ) (TC.seq (TC.block (TC.seq (slB6 z 12 L ) (TC.seq (slI6 z 12 L hL 1 hc) (slD12_6_true_1 z L (by rw [hz]; rfl)))) (.inl rfl)) (slE6 z 12 L ))
  | true =>
    rcases (show ucnt L 6 = 0 ∨ ucnt L 6 = 1 by omega) with hc | hc
    · exact TC.seq (slA6 z 12 L ) (TC.seq (TC.block (TC.seq (slB6 z 12 L ) (TC.seq (slI6 z 12 L hL 0 hc) (slD12_6_false_0 z L (by rw [hz]; rfl)))) (.inl rfl)) (slE6 z 12 L ))
    · exact TC.seq (slA6 z 12 L ) (TC.seq (TC.block (TC.seq (slB6 z 12 L ) (TC.seq (slI6 z 12 L hL 1 hc) (slD12_6_false_1 z L (by rw [hz]; rfl)))) (.inl rfl)) (slE6 z 12 L ))
theorem slD12_7_true_0 (z : Nat → Int) (L : List Int) (h : (!eqb (z 15) 0) = true) : TC Try.prog 68 (sq2 (sq2 in8)) (frL' (fe8 12 (.sl 1 0 L.length 1 true none) 7 0)) 2 (stL (s8' z L)) .normal (frL' (fo8 12 (.sl 1 0 L.length 1 true none) 7)) 2 (stL (s8' z L)) := by
  have e : (oSt (ev8 [(0, true), (1, true), (2, true), (3, true)] [] 2 (sq2 (sq2 in8)) (fe8 12 (.sl 1 0 L.length 1 true none) 7 0) (s8' z L))).ok = okT [(!eqb (z 15) 0) == true, (!eqb (z 15) 0) == true, (!eqb (z 15) 0) == true, (!eqb (z 15) 0) == true] true := by kernel_rfl
  exact tc8 (φ := [(0, true), (1, true), (2, true), (3, true)]) (nils := []) (by kernel_rfl) (e.trans (by rw [h]; rfl)) ⟨by kernel_rfl, by kernel_rfl, by kernel_rfl, by kernel_rfl, trivial⟩ (by kernel_rfl) ⟨by kernel_rfl, by kernel_rfl, trivial⟩
theorem slD12_7_false_0 (z : Nat → Int) (L : List Int) (h : (!eqb (z 15) 0) = false) : TC Try.prog 68 (sq2 (sq2 in8)) (frL' (fe8 12 (.sl 1 0 L.length 1 true none) 7 0)) 2 (stL (s8' z L)) .normal (frL' (fo8 12 (.sl 1 0 L.length 1 true none) 7)) 2 (stL (s8' z L)) := by
  have e : (oSt (ev8 [(0, false), (1, false), (2, false), (3, false)] [] 2 (sq2 (sq2 in8)) (fe8 12 (.sl 1 0 L.length 1 true none) 7 0) (s8' z L))).ok = okT [(!eqb (z 15) 0) == false, (!eqb (z 15) 0) == false, (!eqb (z 15) 0) == false, (!eqb (z 15) 0) == false] true := by kernel_rfl
  exact tc8 (φ := [(0, false), (1, false), (2, false), (3, false)]) (nils := []) (by kernel_rfl) (e.trans (by rw [h]; rfl)) ⟨by kernel_rfl, by kernel_rfl, by kernel_rfl, by kernel_rfl, trivial⟩ (by kernel_rfl) ⟨by kernel_rfl, by kernel_rfl, trivial⟩
theorem slR12_7 (z : Nat → Int) (L : List Int) (hL : L.length < 65536) (hLe : L = resL z 12) : TC Try.prog 68 o8 (frL' (fo8 12 (.sl 1 0 L.length 1 true none) 7)) 2 (stL (s8' z L)) .normal (frL' (fo8 12 (.sl 1 0 L.length 1 true none) 8)) 2 (stL (s8' z L)) := by
  rw [o8_eq]
  have hr := c12_7 z
  rw [← hLe] at hr
  have hc := hr
  cases hz : eqb (z 15) 0 with
  | false => exact TC.seq (slA7 z 12 L ) (TC.seq (TC.block (TC.seq (slB7 z 12 L ) (TC.seq (slI7 z 12 L hL 0 hc) (slD12_7_true_0 z L (by rw [hz]; rfl)))) (.inl rfl)) (slE7 z 12 L ))
  | true => exact TC.seq (slA7 z 12 L ) (TC.seq (TC.block (TC.seq (slB7 z 12 L ) (TC.seq (slI7 z 12 L hL 0 hc) (slD12_7_false_0 z L (by rw [hz]; rfl)))) (.inl rfl)) (slE7 z 12 L ))
theorem slW12 (z : Nat → Int) (L : List Int) (hL : L.length < 65536) (hLe : L = resL z 12) : TC Try.prog 68 (.seq (.seq (sq1 (sq1 (sq2 out8))) (.block 0 (.loop o8))) (sq2 (sq2 out8))) (frL' [(1, .sc (.int .i64 12)), (2, .ptr 0 0), (5, (.sl 1 0 L.length 1 true none))]) 2 (stL (s8' z L)) .ret (frL' [(4, .sc (.bool true))]) 2 (stL (s8' z L)) :=
  TC.seq (TC.seq (slS z 12 L ) (TC.block (TC.loop (k := 9) (TR.more (slR12_0 z L hL hLe) (TR.more (slR12_1 z L hL hLe) (TR.more (slR12_2 z L hL hLe) (TR.more (slR12_3 z L hL hLe) (TR.more (slR12_4 z L hL hLe) (TR.more (slR12_5 z L hL hLe) (TR.more (slR12_6 z L hL hLe) (TR.more (slR12_7 z L hL hLe) (TR.out (slX z 12 L ) (by simp))))))))))) (.inr rfl))) (slZ z L )
theorem slD13_0_true_0 (z : Nat → Int) (L : List Int) (h : (!eqb (z 1) 0) = true) : TC Try.prog 68 (sq2 (sq2 in8)) (frL' (fe8 13 (.sl 1 0 L.length 1 true none) 0 0)) 2 (stL (s8' z L)) .normal (frL' (fo8 13 (.sl 1 0 L.length 1 true none) 0)) 2 (stL (s8' z L)) := by
  have e : (oSt (ev8 [(0, true), (1, true), (2, true), (3, true)] [] 2 (sq2 (sq2 in8)) (fe8 13 (.sl 1 0 L.length 1 true none) 0 0) (s8' z L))).ok = okT [(!eqb (z 1) 0) == true, (!eqb (z 1) 0) == true, (!eqb (z 1) 0) == true, (!eqb (z 1) 0) == true] true := by kernel_rfl
  exact tc8 (φ := [(0, true), (1, true), (2, true), (3, true)]) (nils := []) (by kernel_rfl) (e.trans (by rw [h]; rfl)) ⟨by kernel_rfl, by kernel_rfl, by kernel_rfl, by kernel_rfl, trivial⟩ (by kernel_rfl) ⟨by kernel_rfl, by kernel_rfl, trivial⟩
theorem slD13_0_false_0 (z : Nat → Int) (L : List Int) (h : (!eqb (z 1) 0) = false) : TC Try.prog 68 (sq2 (sq2 in8)) (frL' (fe8 13 (.sl 1 0 L.length 1 true none) 0 0)) 2 (stL (s8' z L)) .normal (frL' (fo8 13 (.sl 1 0 L.length 1 true none) 0)) 2 (stL (s8' z L)) := by
  have e : (oSt (ev8 [(0, false), (1, false), (2, false), (3, false)] [] 2 (sq2 (sq2 in8)) (fe8 13 (.sl 1 0 L.length 1 true none) 0 0) (s8' z L))).ok = okT [(!eqb (z 1) 0) == false, (!eqb (z 1) 0) == false, (!eqb (z 1) 0) == false, (!eqb (z 1) 0) == false] true := by kernel_rfl
  exact tc8 (φ := [(0, false), (1, false), (2, false), (3, false)]) (nils := []) (by kernel_rfl) (e.trans (by rw [h]; rfl)) ⟨by kernel_rfl, by kernel_rfl, by kernel_rfl, by kernel_rfl, trivial⟩ (by kernel_rfl) ⟨by kernel_rfl, by kernel_rfl, trivial⟩
theorem slR13_0 (z : Nat → Int) (L : List Int) (hL : L.length < 65536) (hLe : L = resL z 13) : TC Try.prog 68 o8 (frL' (fo8 13 (.sl 1 0 L.length 1 true none) 0)) 2 (stL (s8' z L)) .normal (frL' (fo8 13 (.sl 1 0 L.length 1 true none) 1)) 2 (stL (s8' z L)) := by
  rw [o8_eq]
  have hr := c13_0 z
  rw [← hLe] at hr
  have hc := hr
  cases hz : eqb (z 1) 0 with
  | false => exact TC.seq (slA0 z 13 L ) (TC.seq (TC.block (TC.seq (slB0 z 13 L ) (TC.seq (slI0 z 13 L hL 0 hc) (slD13_0_true_0 z L (by rw [hz]; rfl)))) (.inl rfl)) (slE0 z 13 L ))
  | true => exact TC.seq (slA0 z 13 L ) (TC.seq (TC.block (TC.seq (slB0 z 13 L ) (TC.seq (slI0 z 13 L hL 0 hc) (slD13_0_false_0 z L (by rw [hz]; rfl)))) (.inl rfl)) (slE0 z 13 L ))
theorem slD13_1_true_0 (z : Nat → Int) (L : List Int) (h : (!eqb (z 3) 0) = true) : TC Try.prog 68 (sq2 (sq2 in8)) (frL' (fe8 13 (.sl 1 0 L.length 1 true none) 1 0)) 2 (stL (s8' z L)) .normal (frL' (fo8 13 (.sl 1 0 L.length 1 true none) 1)) 2 (stL (s8' z L)) := by
  have e : (oSt (ev8 [(0, true), (1, true), (2, true), (3, true)] [] 2 (sq2 (sq2 in8)) (fe8 13 (.sl 1 0 L.length 1 true none) 1 0) (s8' z L))).ok = okT [(!eqb (z 3) 0) == true, (!eqb (z 3) 0) == true, (!eqb (z 3) 0) == true, (!eqb (z 3) 0) == true] true := by kernel_rfl
  exact tc8 (φ := [(0, true), (1, true), (2, true), (3, true)]) (nils := []) (by kernel_rfl) (e.trans (by rw [h]; rfl)) ⟨by kernel_rfl, by kernel_rfl, by kernel_rfl, by kernel_rfl, trivial⟩ (by kernel_rfl) ⟨by kernel_rfl, by kernel_rfl, trivial⟩
theorem slD13_1_false_0 (z : Nat → Int) (L : List Int) (h : (!eqb (z 3) 0) = false) : TC Try.prog 68 (sq2 (sq2 in8)) (frL' (fe8 13 (.sl 1 0 L.length 1 true none) 1 0)) 2 (stL (s8' z L)) .normal (frL' (fo8 13 (.sl 1 0 L.length 1 true none) 1)) 2 (stL (s8' z L)) := by
  have e : (oSt (ev8 [(0, false), (1, false), (2, false), (3, false)] [] 2 (sq2 (sq2 in8)) (fe8 13 (.sl 1 0 L.length 1 true none) 1 0) (s8' z L))).ok = okT [(!eqb (z 3) 0) == false, (!eqb (z 3) 0) == false, (!eqb (z 3) 0) == false, (!eqb (z 3) 0) == false] true := by kernel_rfl
  exact tc8 (φ := [(0, false), (1, false), (2, false), (3, false)]) (nils := []) (by kernel_rfl) (e.trans (by rw [h]; rfl)) ⟨by kernel_rfl, by kernel_rfl, by kernel_rfl, by kernel_rfl, trivial⟩ (by kernel_rfl) ⟨by kernel_rfl, by kernel_rfl, trivial⟩
theorem slR13_1 (z : Nat → Int) (L : List Int) (hL : L.length < 65536) (hLe : L = resL z 13) : TC Try.prog 68 o8 (frL' (fo8 13 (.sl 1 0 L.length 1 true none) 1)) 2 (stL (s8' z L)) .normal (frL' (fo8 13 (.sl 1 0 L.length 1 true none) 2)) 2 (stL (s8' z L)) := by
  rw [o8_eq]
  have hr := c13_1 z
  rw [← hLe] at hr
  have hc := hr
  cases hz : eqb (z 3) 0 with
  | false => exact TC.seq (slA1 z 13 L ) (TC.seq (TC.block (TC.seq (slB1 z 13 L ) (TC.seq (slI1 z 13 L hL 0 hc) (slD13_1_true_0 z L (by rw [hz]; rfl)))) (.inl rfl)) (slE1 z 13 L ))
  | true => exact TC.seq (slA1 z 13 L ) (TC.seq (TC.block (TC.seq (slB1 z 13 L ) (TC.seq (slI1 z 13 L hL 0 hc) (slD13_1_false_0 z L (by rw [hz]; rfl)))) (.inl rfl)) (slE1 z 13 L ))
theorem slD13_2_true_0 (z : Nat → Int) (L : List Int) (h : (!eqb (z 5) 0) = true) : TC Try.prog 68 (sq2 (sq2 in8)) (frL' (fe8 13 (.sl 1 0 L.length 1 true none) 2 0)) 2 (stL (s8' z L)) .normal (frL' (fo8 13 (.sl 1 0 L.length 1 true none) 2)) 2 (stL (s8' z L)) := by
  have e : (oSt (ev8 [(0, true), (1, true), (2, true), (3, true)] [] 2 (sq2 (sq2 in8)) (fe8 13 (.sl 1 0 L.length 1 true none) 2 0) (s8' z L))).ok = okT [(!eqb (z 5) 0) == true, (!eqb (z 5) 0) == true, (!eqb (z 5) 0) == true, (!eqb (z 5) 0) == true] true := by kernel_rfl
  exact tc8 (φ := [(0, true), (1, true), (2, true), (3, true)]) (nils := []) (by kernel_rfl) (e.trans (by rw [h]; rfl)) ⟨by kernel_rfl, by kernel_rfl, by kernel_rfl, by kernel_rfl, trivial⟩ (by kernel_rfl) ⟨by kernel_rfl, by kernel_rfl, trivial⟩
theorem slD13_2_false_0 (z : Nat → Int) (L : List Int) (h : (!eqb (z 5) 0) = false) : TC Try.prog 68 (sq2 (sq2 in8)) (frL' (fe8 13 (.sl 1 0 L.length 1 true none) 2 0)) 2 (stL (s8' z L)) .normal (frL' (fo8 13 (.sl 1 0 L.length 1 true none) 2)) 2 (stL (s8' z L)) := by
  have e : (oSt (ev8 [(0, false), (1, false), (2, false), (3, false)] [] 2 (sq2 (sq2 in8)) (fe8 13 (.sl 1 0 L.length 1 true none) 2 0) (s8' z L))).ok = okT [(!eqb (z 5) 0) == false, (!eqb (z 5) 0) == false, (!eqb (z 5) 0) == false, (!eqb (z 5) 0) == false] true := by kernel_rfl
  exact tc8 (φ := [(0, false), (1, false), (2, false), (3, false)]) (nils := []) (by kernel_rfl) (e.trans (by rw [h]; rfl)) ⟨by kernel_rfl, by kernel_rfl, by kernel_rfl, by kernel_rfl, trivial⟩ (by kernel_rfl) ⟨by kernel_rfl, by kernel_rfl, trivial⟩
theorem slR13_2 (z : Nat → Int) (L : List Int) (hL : L.length < 65536) (hLe : L = resL z 13) : TC Try.prog 68 o8 (frL' (fo8 13 (.sl 1 0 L.length 1 true none) 2)) 2 (stL (s8' z L)) .normal (frL' (fo8 13 (.sl 1 0 L.length 1 true none) 3)) 2 (stL (s8' z L)) := by
  rw [o8_eq]
  have hr := c13_2 z
  rw [← hLe] at hr
  have hc := hr
  cases hz : eqb (z 5) 0 with
  | false => exact TC.seq (slA2 z 13 L ) (TC.seq (TC.block (TC.seq (slB2 z 13 L ) (TC.seq (slI2 z 13 L hL 0 hc) (slD13_2_true_0 z L (by rw [hz]; rfl)))) (.inl rfl)) (slE2 z 13 L ))
  | true => exact TC.seq (slA2 z 13 L ) (TC.seq (TC.block (TC.seq (slB2 z 13 L ) (TC.seq (slI2 z 13 L hL 0 hc) (slD13_2_false_0 z L (by rw [hz]; rfl)))) (.inl rfl)) (slE2 z 13 L ))
theorem slD13_3_true_0 (z : Nat → Int) (L : List Int) (h : (!eqb (z 7) 0) = true) : TC Try.prog 68 (sq2 (sq2 in8)) (frL' (fe8 13 (.sl 1 0 L.length 1 true none) 3 0)) 2 (stL (s8' z L)) .normal (frL' (fo8 13 (.sl 1 0 L.length 1 true none) 3)) 2 (stL (s8' z L)) := by
  have e : (oSt (ev8 [(0, true), (1, true), (2, true), (3, true)] [] 2 (sq2 (sq2 in8)) (fe8 13 (.sl 1 0 L.length 1 true none) 3 0) (s8' z L))).ok = okT [(!eqb (z 7) 0) == true, (!eqb (z 7) 0) == true, (!eqb (z 7) 0) == true, (!eqb (z 7) 0) == true] true := by kernel_rfl
  exact tc8 (φ := [(0, true), (1, true), (2, true), (3, true)]) (nils := []) (by kernel_rfl) (e.trans (by rw [h]; rfl)) ⟨by kernel_rfl, by kernel_rfl, by kernel_rfl, by kernel_rfl, trivial⟩ (by kernel_rfl) ⟨by kernel_rfl, by kernel_rfl, trivial⟩
theorem slD13_3_false_0 (z : Nat → Int) (L : List Int) (h : (!eqb (z 7) 0) = false) : TC Try.prog 68 (sq2 (sq2 in8)) (frL' (fe8 13 (.sl 1 0 L.length 1 true none) 3 0)) 2 (stL (s8' z L)) .normal (frL' (fo8 13 (.sl 1 0 L.length 1 true none) 3)) 2 (stL (s8' z L)) := by
  have e : (oSt (ev8 [(0, false), (1, false), (2, false), (3, false)] [] 2 (sq2 (sq2 in8)) (fe8 13 (.sl 1 0 L.length 1 true none) 3 0) (s8' z L))).ok = okT [(!eqb (z 7) 0) == false, (!eqb (z 7) 0) == false, (!eqb (z 7) 0) == false, (!eqb (z 7) 0) == false] true := by kernel_rfl
  exact tc8 (φ := [(0, false), (1, false), (2, false), (3, false)]) (nils := []) (by kernel_rfl) (e.trans (by rw [h]; rfl)) ⟨by kernel_rfl, by kernel_rfl, by kernel_rfl, by kernel_rfl, trivial⟩ (by kernel_rfl) ⟨by kernel_rfl, by kernel_rfl, trivial⟩
theorem slR13_3 (z : Nat → Int) (L : List Int) (hL : L.length < 65536) (hLe : L = resL z 13) : TC Try.prog 68 o8 (frL' (fo8 13 (.sl 1 0 L.length 1 true none) 3)) 2 (stL (s8' z L)) .normal (frL' (fo8 13 (.sl 1 0 L.length 1 true none) 4)) 2 (stL (s8' z L)) := by
  rw [o8_eq]
  have hr := c13_3 z
  rw [← hLe] at hr
  have hc := hr
  cases hz : eqb (z 7) 0 with
  | false => exact TC.seq (slA3 z 13 L ) (TC.seq (TC.block (TC.seq (slB3 z 13 L ) (TC.seq (slI3 z 13 L hL 0 hc) (slD13_3_true_0 z L (by rw [hz]; rfl)))) (.inl rfl)) (slE3 z 13 L ))
  | true => exact TC.seq (slA3 z 13 L ) (TC.seq (TC.block (TC.seq (slB3 z 13 L ) (TC.seq (slI3 z 13 L hL 0 hc) (slD13_3_false_0 z L (by rw [hz]; rfl)))) (.inl rfl)) (slE3 z 13 L ))
theorem slD13_4_true_0 (z : Nat → Int) (L : List Int) (h : (!eqb (z 9) 0) = true) : TC Try.prog 68 (sq2 (sq2 in8)) (frL' (fe8 13 (.sl 1 0 L.length 1 true none) 4 0)) 2 (stL (s8' z L)) .normal (frL' (fo8 13 (.sl 1 0 L.length 1 true none) 4)) 2 (stL (s8' z L)) := by
  have e : (oSt (ev8 [(0, true), (1, true), (2, true), (3, true)] [] 2 (sq2 (sq2 in8)) (fe8 13 (.sl 1 0 L.length 1 true none) 4 0) (s8' z L))).ok = okT [(!eqb (z 9) 0) == true, (!eqb (z 9) 0) == true, (!eqb (z 9) 0) == true, (!eqb (z 9) 0) == true] true := by kernel_rfl
  exact tc8 (φ := [(0, true), (1, true), (2, true), (3, true)]) (nils := []) (by kernel_rfl) (e.trans (by rw [h]; rfl)) ⟨by kernel_rfl, by kernel_rfl, by kernel_rfl, by kernel_rfl, trivial⟩ (by kernel_rfl) ⟨by kernel_rfl, by kernel_rfl, trivial⟩
theorem slD13_4_false_0 (z : Nat → Int) (L : List Int) (h : (!eqb (z 9) 0) = false) : TC Try.prog 68 (sq2 (sq2 in8)) (frL' (fe8 13 (.sl 1 0 L.length 1 true none) 4 0)) 2 (stL (s8' z L)) .normal (frL' (fo8 13 (.sl 1 0 L.length 1 true none) 4)) 2 (stL (s8' z L)) := by
  have e : (oSt (ev8 [(0, false), (1, false), (2, false), (3, false)] [] 2 (sq2 (sq2 in8)) (fe8 13 (.sl 1 0 L.length 1 true none) 4 0) (s8' z L))).ok = okT [(!eqb (z 9) 0) == false, (!eqb (z 9) 0) == false, (!eqb (z 9) 0) == false, (!eqb (z 9) 0) == false] true := by kernel_rfl
  exact tc8 (φ := [(0, false), (1, false), (2, false), (3, false)]) (nils := []) (by kernel_rfl) (e.trans (by rw [h]; rfl)) ⟨by kernel_rfl, by kernel_rfl, by kernel_rfl, by kernel_rfl, trivial⟩ (by kernel_rfl) ⟨by kernel_rfl, by kernel_rfl, trivial⟩
theorem slR13_4 (z : Nat → Int) (L : List Int) (hL : L.length < 65536) (hLe : L = resL z 13) : TC Try.prog 68 o8 (frL' (fo8 13 (.sl 1 0 L.length 1 true none) 4)) 2 (stL (s8' z L)) .normal (frL' (fo8 13 (.sl 1 0 L.length 1 true none) 5)) 2 (stL (s8' z L)) := by
  rw [o8_eq]
  have hr := c13_4 z
  rw [← hLe] at hr
  have hc := hr
  cases hz : eqb (z 9) 0 with
  | false => exact TC.seq (slA4 z 13 L ) (TC.seq (TC.block (TC.seq (slB4 z 13 L ) (TC.seq (slI4 z 13 L hL 0 hc) (slD13_4_true_0 z L (by rw [hz]; rfl)))) (.inl rfl)) (slE4 z 13 L ))
  | true => exact TC.seq (slA4 z 13 L ) (TC.seq (TC.block (TC.seq (slB4 z 13 L ) (TC.seq (slI4 z 13 L hL 0 hc) (slD13_4_false_0 z L (by rw [hz]; rfl)))) (.inl rfl)) (slE4 z 13 L ))
theorem slD13_5_true_0 (z : Nat → Int) (L : List Int) (h : (!eqb (z 11) 0) = true) : TC Try.prog 68 (sq2 (sq2 in8)) (frL' (fe8 13 (.sl 1 0 L.length 1 true none) 5 0)) 2 (stL (s8' z L)) .normal (frL' (fo8 13 (.sl 1 0 L.length 1 true none) 5)) 2 (stL (s8' z L)) := by
  have e : (oSt (ev8 [(0, true), (1, true), (2, true), (3, true)] [] 2 (sq2 (sq2 in8)) (fe8 13 (.sl 1 0 L.length 1 true none) 5 0) (s8' z L))).ok = okT [(!eqb (z 11) 0) == true, (!eqb (z 11) 0) == true, (!eqb (z 11) 0) == true, (!eqb (z 11) 0) == true] true := by kernel_rfl
  exact tc8 (φ := [(0, true), (1, true), (2, true), (3, true)]) (nils := []) (by kernel_rfl) (e.trans (by rw [h]; rfl)) ⟨by kernel_rfl, by kernel_rfl, by kernel_rfl, by kernel_rfl, trivial⟩ (by kernel_rfl) ⟨by kernel_rfl, by kernel_rfl, trivial⟩
theorem slD13_5_false_0 (z : Nat → Int) (L : List Int) (h : (!eqb (z 11) 0) = false) : TC Try.prog 68 (sq2 (sq2 in8)) (frL' (fe8 13 (.sl 1 0 L.length 1 true none) 5 0)) 2 (stL (s8' z L)) .normal (frL' (fo8 13 (.sl 1 0 L.length 1 true none) 5)) 2 (stL (s8' z L)) := by
  have e : (oSt (ev8 [(0, false), (1, false), (2, false), (3, false)] [] 2 (sq2 (sq2 in8)) (fe8 13 (.sl 1 0 L.length 1 true none) 5 0) (s8' z L))).ok = okT [(!eqb (z 11) 0) == false, (!eqb (z 11) 0) == false, (!eqb (z 11) 0) == false, (!eqb (z 11) 0) == false] true := by kernel_rfl
  exact tc8 (φ := [(0, false), (1, false), (2, false), (3, false)]) (nils := []) (by kernel_rfl) (e.trans (by rw [h]; rfl)) ⟨by kernel_rfl, by kernel_rfl, by kernel_rfl, by kernel_rfl, trivial⟩ (by kernel_rfl) ⟨by kernel_rfl, by kernel_rfl, trivial⟩
theorem slR13_5 (z : Nat → Int) (L : List Int) (hL : L.length < 65536) (hLe : L = resL z 13) : TC Try.prog 68 o8 (frL' (fo8 13 (.sl 1 0 L.length 1 true none) 5)) 2 (stL (s8' z L)) .normal (frL' (fo8 13 (.sl 1 0 L.length 1 true none) 6)) 2 (stL (s8' z L)) := by
  rw [o8_eq]
  have hr := c13_5 z
  rw [← hLe] at hr
  have hc := hr
  cases hz : eqb (z 11) 0 with
  | false => exact TC.seq (slA5 z 13 L ) (TC.seq (TC.block (TC.seq (slB5 z 13 L ) (TC.seq (slI5 z 13 L hL 0 hc) (slD13_5_true_0 z L (by rw [hz]; rfl)))) (.inl rfl)) (slE5 z 13 L ))
  | true => exact TC.seq (slA5 z 13 L ) (TC.seq (TC.block (TC.seq (slB5 z 13 L ) (TC.seq (slI5 z 13 L hL 0 hc) (slD13_5_false_0 z L (by rw [hz]; rfl)))) (.inl rfl)) (slE5 z 13 L ))
theorem slD13_6_true_1 (z : Nat → Int) (L : List Int) (h : (!eqb (z 13) 0) = true) : TC Try.prog 68 (sq2 (sq2 in8)) (frL' (fe8 13 (.sl 1 0 L.length 1 true none) 6 1)) 2 (stL (s8' z L)) .normal (frL' (fo8 13 (.sl 1 0 L.length 1 true none) 6)) 2 (stL (s8' z L)) := by
  have e : (oSt (ev8 [(0, true), (1, true), (2, true), (3, true)] [] 2 (sq2 (sq2 in8)) (fe8 13 (.sl 1 0 L.length 1 true none) 6 1) (s8' z L))).ok = okT [(!eqb (z 13) 0) == true, (!eqb (z 13) 0) == true, (!eqb (z 13) 0) == true, (!eqb (z 13) 0) == true] true := by kernel_rfl
  exact tc8 (φ := [(0, true), (1, true), (2, true), (3, true)]) (nils := []) (by kernel_rfl) (e.trans (by rw [h]; rfl)) ⟨by kernel_rfl, by kernel_rfl, by kernel_rfl, by kernel_rfl, trivial⟩ (by kernel_rfl) ⟨by kernel_rfl, by kernel_rfl, trivial⟩
theorem slD13_6_false_0 (z : Nat → Int) (L : List Int) (h : (!eqb (z 13) 0) = false) : TC Try.prog 68 (sq2 (sq2 in8)) (frL' (fe8 13 (.sl 1 0 L.length 1 true none) 6 0)) 2 (stL (s8' z L)) .normal (frL' (fo8 13 (.sl 1 0 L.length 1 true none) 6)) 2 (stL (s8' z L)) := by
  have e : (oSt (ev8 [(0, false), (1, false), (2, false), (3, false)] [] 2 (sq2 (sq2 in8)) (fe8 13 (.sl 1 0 L.length 1 true none) 6 0) (s8' z L))).ok = okT [(!eqb (z 13) 0) == false, (!eqb (z 13) 0) == false, (!eqb (z 13) 0) == false, (!eqb (z 13) 0) == false] true := by kernel_rfl
  exact tc8 (φ := [(0, false), (1, false), (2, false), (3, false)]) (nils := []) (by kernel_rfl) (e.trans (by rw [h]; rfl)) ⟨by kernel_rfl, by kernel_rfl, by kernel_rfl, by kernel_rfl, trivial⟩ (by kernel_rfl) ⟨by kernel_rfl, by kernel_rfl, trivial⟩
theorem slD13_6_false_1 (z : Nat → Int) (L : List Int) (h : (!eqb (z 13) 0) = false) : TC Try.prog 68 (sq2 (sq2 in8)) (frL' (fe8 13 (.sl 1 0 L.length 1 true none) 6 1)) 2 (stL (s8' z L)) .normal (frL' (fo8 13 (.sl 1 0 L.length 1 true none) 6)) 2 (stL (s8' z L)) := by
  have e : (oSt (ev8 [(0, false), (1, false), (2, false), (3, false)] [] 2 (sq2 (sq2 in8)) (fe8 13 (.sl 1 0 L.length 1 true none) 6 1) (s8' z L))).ok = okT [(!eqb (z 13) 0) == false, (!eqb (z 13) 0) == false, (!eqb (z 13) 0) == false, (!eqb (z 13) 0) == false] true := by kernel_rfl
  exact tc8 (φ := [(0, false), (1, false), (2, false), (3, false)]) (nils := []) (by kernel_rfl) (e.trans (by rw [h]; rfl)) ⟨by kernel_rfl, by kernel_rfl, by kernel_rfl, by kernel_rfl, trivial⟩ (by kernel_rfl) ⟨by kernel_rfl, by kernel_rfl, trivial⟩
theorem slR13_6 (z : Nat → Int) (L : List Int) (hL : L.length < 65536) (hLe : L = resL z 13) : TC Try.prog 68 o8 (frL' (fo8 13 (.sl 1 0 L.length 1 true none) 6)) 2 (stL (s8' z L)) .normal (frL' (fo8 13 (.sl 1 0 L.length 1 true none) 7)) 2 (stL (s8' z L)) := by
  rw [o8_eq]
  have hr := c13_6 z
  rw [← hLe] at hr
  cases hz : eqb (z 13) 0 with
  | false =>
    have hc := hr.2 hz
    exact TC.seq (slA6 z 13 L ) (TC.seq (TC.block (TC.seq (slB6 z 13 L ) (TC.seq (slI6 z 13 L hL 1 hc) (slD13_6_true_1 z L (by rw [hz]; rfl)))) (.inl rfl)) (slE6 z 13 L ))
  | true =>
    rcases (show ucnt L 6 = 0 ∨ ucnt L 6 = 1 by omega) with hc | hc
    · exact TC.seq (slA6 z 13 L ) (TC.seq (TC.block (TC.seq (slB6 z 13 L ) (TC.seq (slI6 z 13 L hL 0 hc) (slD13_6_false_0 z L (by rw [hz]; rfl)))) (.inl rfl)) (slE6 z 13 L ))
    · exact TC.seq (slA6 z 13 L ) (TC.seq (TC.block (TC.seq (slB6 z 13 L ) (TC.seq (slI6 z 13 L hL 1 hc) (slD13_6_false_1 z L (by rw [hz]; rfl)))) (.inl rfl)) (slE6 z 13 L ))
theorem slD13_7_true_1 (z : Nat → Int) (L : List Int) (h : (!eqb (z 15) 0) = true) : TC Try.prog 68 (sq2 (sq2 in8)) (frL' (fe8 13 (.sl 1 0 L.length 1 true none) 7 1)) 2 (stL (s8' z L)) .normal (frL' (fo8 13 (.sl 1 0 L.length 1 true none) 7)) 2 (stL (s8' z L)) := by
  have e : (oSt (ev8 [(0, true), (1, true), (2, true), (3, true)] [] 2 (sq2 (sq2 in8)) (fe8 13 (.sl 1 0 L.length 1 true none) 7 1) (s8' z L))).ok = okT [(!eqb (z 15) 0) == true, (!eqb (z 15) 0) == true, (!eqb (z 15) 0) == true, (!eqb (z 15) 0) == true] true := by kernel_rfl
  exact tc8 (φ := [(0, true), (1, true), (2, true), (3, true)]) (nils := []) (by kernel_rfl) (e.trans (by rw [h]; rfl)) ⟨by kernel_rfl, by kernel_rfl, by kernel_rfl, by kernel_rfl, trivial⟩ (by kernel_rfl) ⟨by kernel_rfl, by kernel_rfl, trivial⟩
theorem slD13_7_false_0 (z : Nat → Int) (L : List Int) (h : (!eqb (z 15) 0) = false) : TC Try.prog 68 (sq2 (sq2 in8)) (frL' (fe8 13 (.sl 1 0 L.length 1 true none) 7 0)) 2 (stL (s8' z L)) .normal (frL' (fo8 13 (.sl 1 0 L.length 1 true none) 7)) 2 (stL (s8' z L)) := by
  have e : (oSt (ev8 [(0, false), (1, false), (2, false), (3, false)] [] 2 (sq2 (sq2 in8)) (fe8 13 (.sl 1 0 L.length 1 true none) 7 0) (s8' z L))).ok = okT [(!eqb (z 15) 0) == false, (!eqb (z 15) 0) == false, (!eqb (z 15) 0) == false, (!eqb (z 15) 0) == false] true := by kernel_rfl
  exact tc8 (φ := [(0, false), (1, false), (2, false), (3, false)]) (nils := []) (by kernel_rfl) (e.trans (by rw [h]; rfl)) ⟨by kernel_rfl, by kernel_rfl, by kernel_rfl, by kernel_rfl, trivial⟩ (by kernel_rfl) ⟨by kernel_rfl, by kernel_rfl, trivial⟩
theorem slD13_7_false_1 (z : Nat → Int) (L : List Int) (h : (!eqb (z 15) 0) = false) : TC Try.prog 68 (sq2 (sq2 in8)) (frL' (fe8 13 (.sl 1 0 L.length 1 true none) 7 1)) 2 (stL (s8' z L)) .normal (frL' (fo8 13 (.sl 1 0 L.length 1 true none) 7)) 2 (stL (s8' z L)) := by
  have e : (oSt (ev8 [(0, false), (1, false), (2, false), (3, false)] [] 2 (sq2 (sq2 in8)) (fe8 13 (.sl 1 0 L.length 1 true none) 7 1) (s8' z L))).ok = okT [(!eqb (z 15) 0) == false, (!eqb (z 15) 0) == false, (!eqb (z 15) 0) == false, (!eqb (z 15) 0) == false] true := by kernel_rfl
  exact tc8 (φ := [(0, false), (1, false), (2, false), (3, false)]) (nils := []) (by kernel_rfl) (e.trans (by rw [h]; rfl)) ⟨by kernel_rfl, by kernel_rfl, by kernel_rfl, by kernel_rfl, trivial⟩ (by kernel_rfl) ⟨by kernel_rfl, by kernel_rfl, trivial⟩
theorem slR13_7 (z : Nat → Int) (L : List Int) (hL : L.length < 65536) (hLe : L = resL z 13) : TC Try.prog 68 o8 (frL' (fo8 13 (.sl 1 0 L.length 1 true none) 7)) 2 (stL (s8' z L)) .normal (frL' (fo8 13 (.sl 1 0 L.length 1 true none) 8)) 2 (stL (s8' z L)) := by
  rw [o8_eq]
  have hr := c13_7 z
  rw [← hLe] at hr
  cases hz : eqb (z 15) 0 with
  | false =>
    have hc := hr.2 hz
    exact TC.seq (slA7 z 13 L ) (TC.seq (TC.block (TC.seq (slB7 z 13 L ) (TC.seq (slI7 z 13 L hL 1 hc) (slD13_7_true_1 z L (by rw [hz]; rfl)))) (.inl rfl)) (slE7 z 13 L ))
  | true =>
    rcases (show ucnt L 7 = 0 ∨ ucnt L 7 = 1 by omega) with hc | hc
    · exact TC.seq (slA7 z 13 L ) (TC.seq (TC.block (TC.seq (slB7 z 13 L ) (TC.seq (slI7 z 13 L hL 0 hc) (slD13_7_false_0 z L (by rw [hz]; rfl)))) (.inl rfl)) (slE7 z 13 L ))
    · exact TC.seq (slA7 z 13 L ) (TC.seq (TC.block (TC.seq (slB7 z 13 L ) (TC.seq (slI7 z 13 L hL 1 hc) (slD13_7_false_1 z L (by rw [hz]; rfl)))) (.inl rfl)) (slE7 z 13 L ))
theorem slW13 (z : Nat → Int) (L : List Int) (hL : L.length < 65536) (hLe : L = resL z 13) : TC Try.prog 68 (.seq (.seq (sq1 (sq1 (sq2 out8))) (.block 0 (.loop o8))) (sq2 (sq2 out8))) (frL' [(1, .sc (.int .i64 13)), (2, .ptr 0 0), (5, (.sl 1 0 L.length 1 true none))]) 2 (stL (s8' z L)) .ret (frL' [(4, .sc (.bool true))]) 2 (stL (s8' z L)) :=
  TC.seq (TC.seq (slS z 13 L ) (TC.block (TC.loop (k := 9) (TR.more (slR13_0 z L hL hLe) (TR.more (slR13_1 z L hL hLe) (TR.more (slR13_2 z L hL hLe) (TR.more (slR13_3 z L hL hLe) (TR.more (slR13_4 z L hL hLe) (TR.more (slR13_5 z L hL hLe) (TR.more (slR13_6 z L hL hLe) (TR.more (slR13_7 z L hL hLe) (TR.out (slX z 13 L ) (by simp))))))))))) (.inr rfl))) (slZ z L )
theorem slD14_0_true_0 (z : Nat → Int) (L : List Int) (h : (!eqb (z 1) 0) = true) : TC Try.prog 68 (sq2 (sq2 in8)) (frL' (fe8 14 (.sl 1 0 L.length 1 true none) 0 0)) 2 (stL (s8' z L)) .normal (frL' (fo8 14 (.sl 1 0 L.length 1 true none) 0)) 2 (stL (s8' z L)) := by
  have e : (oSt (ev8 [(0, true), (1, true), (2, true), (3, true)] [] 2 (sq2 (sq2 in8)) (fe8 14 (.sl 1 0 L.length 1 true none) 0 0) (s8' z L))).ok = okT [(!eqb (z 1) 0) == true, (!eqb (z 1) 0) == true, (!eqb (z 1) 0) == true, (!eqb (z 1) 0) == true] true := by kernel_rfl
  exact tc8 (φ := [(0, true), (1, true), (2, true), (3, true)]) (nils := []) (by kernel_rfl) (e.trans (by rw [h]; rfl)) ⟨by kernel_rfl, by kernel_rfl, by kernel_rfl, by kernel_rfl, trivial⟩ (by kernel_rfl) ⟨by kernel_rfl, by kernel_rfl, trivial⟩
theorem slD14_0_false_0 (z : Nat → Int) (L : List Int) (h : (!eqb (z 1) 0) = false) : TC Try.prog 68 (sq2 (sq2 in8)) (frL' (fe8 14 (.sl 1 0 L.length 1 true none) 0 0)) 2 (stL (s8' z L)) .normal (frL' (fo8 14 (.sl 1 0 L.length 1 true none) 0)) 2 (stL (s8' z L)) := by
  have e : (oSt (ev8 [(0, false), (1, false), (2, false), (3, false)] [] 2 (sq2 (sq2 in8)) (fe8 14 (.sl 1 0 L.length 1 true none) 0 0) (s8' z L))).ok = okT [(!eqb (z 1) 0) == false, (!eqb (z 1) 0) == false, (!eqb (z 1) 0) == false, (!eqb (z 1) 0) == false] true := by kernel_rfl
  exact tc8 (φ := [(0, false), (1, false), (2, false), (3, false)]) (nils := []) (by kernel_rfl) (e.trans (by rw [h]; rfl)) ⟨by kernel_rfl, by kernel_rfl, by kernel_rfl, by kernel_rfl, trivial⟩ (by kernel_rfl) ⟨by kernel_rfl, by kernel_rfl, trivial⟩
theorem slR14_0 (z : Nat → Int) (L : List Int) (hL : L.length < 65536) (hLe : L = resL z 14) : TC Try.prog 68 o8 (frL' (fo8 14 (.sl 1 0 L.length 1 true none) 0)) 2 (stL (s8' z L)) .normal (frL' (fo8 14 (.sl 1 0 L.length 1 true none) 1)) 2 (stL (s8' z L)) := by
  rw [o8_eq]
  have hr := c14_0 z
  rw [← hLe] at hr
  have hc := hr
  cases hz : eqb (z 1) 0 with
  | false => exact TC.seq (slA0 z 14 L ) (TC.seq (TC.block (TC.seq (slB0 z 14 L ) (TC.seq (slI0 z 14 L hL 0 hc) (slD14_0_true_0 z L (by rw [hz]; rfl)))) (.inl rfl)) (slE0 z 14 L ))
  | true => exact TC.seq (slA0 z 14 L ) (TC.seq (TC.block (TC.seq (slB0 z 14 L ) (TC.seq (slI0 z 14 L hL 0 hc) (slD14_0_false_0 z L (by rw [hz]; rfl)))) (.inl rfl)) (slE0 z 14 L ))
theorem slD14_1_true_0 (z : Nat → Int) (L : List Int) (h : (!eqb (z 3) 0) = true) : TC Try.prog 68 (sq2 (sq2 in8)) (frL' (fe8 14 (.sl 1 0 L.length 1 true none) 1 0)) 2 (stL (s8' z L)) .normal (frL' (fo8 14 (.sl 1 0 L.length 1 true none) 1)) 2 (stL (s8' z L)) := by
  have e : (oSt (ev8 [(0, true), (1, true), (2, true), (3, true)] [] 2 (sq2 (sq2 in8)) (fe8 14 (.sl 1 0 L.length 1 true none) 1 0) (s8' z L))).ok = okT [(!eqb (z 3) 0) == true, (!eqb (z 3) 0) == true, (!eqb (z 3) 0) == true, (!eqb (z 3) 0) == true] true := by kernel_rfl
  exact tc8 (φ := [(0, true), (1, true), (2, true), (3, true)]) (nils := []) (by kernel_rfl) (e.trans (by rw [h]; rfl)) ⟨by kernel_rfl, by kernel_rfl, by kernel_rfl, by kernel_rfl, trivial⟩ (by kernel_rfl) ⟨by kernel_rfl, by kernel_rfl, trivial⟩
theorem slD14_1_false_0 (z : Nat → Int) (L : List Int) (h : (!eqb (z 3) 0) = false) : TC Try.prog 68 (sq2 (sq2 in8)) (frL' (fe8 14 (.sl 1 0 L.length 1 true none) 1 0)) 2 (stL (s8' z L)) .normal (frL' (fo8 14 (.sl 1 0 L.length 1 true none) 1)) 2 (stL (s8' z L)) := by
  have e : (oSt (ev8 [(0, false), (1, false), (2, false), (3, false)] [] 2 (sq2 (sq2 in8)) (fe8 14 (.sl 1 0 L.length 1 true none) 1 0) (s8' z L))).ok = okT [(!eqb (z 3) 0) == false, (!eqb (z 3) 0) == false, (!eqb (z 3) 0) == false, (!eqb (z 3) 0) == false] true := by kernel_rfl
  exact tc8 (φ := [(0, false), (1, false), (2, false), (3, false)]) (nils := []) (by kernel_rfl) (e.trans (by rw [h]; rfl)) ⟨by kernel_rfl, by kernel_rfl, by kernel_rfl, by kernel_rfl, trivial⟩ (by kernel_rfl) ⟨by kernel_rfl, by kernel_rfl, trivial⟩
theorem slR14_1 (z : Nat → Int) (L : List Int) (hL : L.length < 65536) (hLe : L = resL z 14) : TC Try.prog 68 o8 (frL' (fo8 14 (.sl 1 0 L.length 1 true none) 1)) 2 (stL (s8' z L)) .normal (frL' (fo8 14 (.sl 1 0 L.length 1 true none) 2)) 2 (stL (s8' z L)) := by
  rw [o8_eq]
  have hr := c14_1 z
  rw [← hLe] at hr
  have hc := hr
  cases hz : eqb (z 3) 0 with
  | false => exact TC.seq (slA1 z 14 L ) (TC.seq (TC.block (TC.seq (slB1 z 14 L ) (TC.seq (slI1 z 14 L hL 0 hc) (slD14_1_true_0 z L (by rw [hz]; rfl)))) (.inl rfl)) (slE1 z 14 L ))
  | true => exact TC.seq (slA1 z 14 L ) (TC.seq (TC.block (TC.seq (slB1 z 14 L ) (TC.seq (slI1 z 14 L hL 0 hc) (slD14_1_false_0 z L (by rw [hz]; rfl)))) (.inl rfl)) (slE1 z 14 L ))
theorem slD14_2_true_0 (z : Nat → Int) (L : List Int) (h : (!eqb (z 5) 0) = true) : TC Try.prog 68 (sq2 (sq2 in8)) (frL' (fe8 14 (.sl 1 0 L.length 1 true none) 2 0)) 2 (stL (s8' z L)) .normal (frL' (fo8 14 (.sl 1 0 L.length 1 true none) 2)) 2 (stL (s8' z L)) := by
  have e : (oSt (ev8 [(0, true), (1, true), (2, true), (3, true)] [] 2 (sq2 (sq2 in8)) (fe8 14 (.sl 1 0 L.length 1 true none) 2 0) (s8' z L))).ok = okT [(!eqb (z 5) 0) == true, (!eqb (z 5) 0) == true, (!eqb (z 5) 0) == true, (!eqb (z 5) 0) == true] true := by kernel_rfl
  exact tc8 (φ := [(0, true), (1, true), (2, true), (3, true)]) (nils := []) (by kernel_rfl) (e.trans (by rw [h]; rfl)) ⟨by kernel_rfl, by kernel_rfl, by kernel_rfl, by kernel_rfl, trivial⟩ (by kernel_rfl) ⟨by kernel_rfl, by kernel_rfl, trivial⟩
theorem slD14_2_false_0 (z : Nat → Int) (L : List Int) (h : (!eqb (z 5) 0) = false) : TC Try.prog 68 (sq2 (sq2 in8)) (frL' (fe8 14 (.sl 1 0 L.length 1 true none) 2 0)) 2 (stL (s8' z L)) .normal (frL' (fo8 14 (.sl 1 0 L.length 1 true none) 2)) 2 (stL (s8' z L)) := by
  have e : (oSt (ev8 [(0, false), (1, false), (2, false), (3, false)] [] 2 (sq2 (sq2 in8)) (fe8 14 (.sl 1 0 L.length 1 true none) 2 0) (s8' z L))).ok = okT [(!eqb (z 5) 0) == false, (!eqb (z 5) 0) == false, (!eqb (z 5) 0) == false, (!eqb (z 5) 0) == false] true := by kernel_rfl
  exact tc8 (φ := [(0, false), (1, false), (2, false), (3, false)]) (nils := []) (by kernel_rfl) (e.trans (by rw [h]; rfl)) ⟨by kernel_rfl, by kernel_rfl, by kernel_rfl, by kernel_rfl, trivial⟩ (by kernel_rfl) ⟨by kernel_rfl, by kernel_rfl, trivial⟩
theorem slR14_2 (z : Nat → Int) (L : List Int) (hL : L.length < 65536) (hLe : L = resL z 14) : TC Try.prog 68 o8 (frL' (fo8 14 (.sl 1 0 L.length 1 true none) 2)) 2 (stL (s8' z L)) .normal (frL' (fo8 14 (.sl 1 0 L.length 1 true none) 3)) 2 (stL (s8' z L)) := by
  rw [o8_eq]
  have hr := c14_2 z
  rw [← hLe] at hr
  have hc := hr
  cases hz : eqb (z 5) 0 with
  | false => exact TC.seq (slA2 z 14 L ) (TC.seq (TC.block (TC.seq (slB2 z 14 L ) (TC.seq (slI2 z 14 L hL 0 hc) (slD14_2_true_0 z L (by rw [hz]; rfl)))) (.inl rfl)) (slE2 z 14 L ))
  | true => exact TC.seq (slA2 z 14 L ) (TC.seq (TC.block (TC.seq (slB2 z 14 L ) (TC.seq (slI2 z 14 L hL 0 hc) (slD14_2_false_0 z L (by rw [hz]; rfl)))) (.inl rfl)) (slE2 z 14 L ))
theorem slD14_3_true_0 (z : Nat → Int) (L : List Int) (h : (!eqb (z 7) 0) = true) : TC Try.prog 68 (sq2 (sq2 in8)) (frL' (fe8 14 (.sl 1 0 L.length 1 true none) 3 0)) 2 (stL (s8' z L)) .normal (frL' (fo8 14 (.sl 1 0 L.length 1 true none) 3)) 2 (stL (s8' z L)) := by
  have e : (oSt (ev8 [(0, true), (1, true), (2, true), (3, true)] [] 2 (sq2 (sq2 in8)) (fe8 14 (.sl 1 0 L.length 1 true none) 3 0) (s8' z L))).ok = okT [(!eqb (z 7) 0) == true, (!eqb (z 7) 0) == true, (!eqb (z 7) 0) == true, (!eqb (z 7) 0) == true] true := by kernel_rfl
  exact tc8 (φ := [(0, true), (1, true), (2, true), (3, true)]) (nils := []) (by kernel_rfl) (e.trans (by rw [h]; rfl)) ⟨by kernel_rfl, by kernel_rfl, by kernel_rfl, by kernel_rfl, trivial⟩ (by kernel_rfl) ⟨by kernel_rfl, by kernel_rfl, trivial⟩
theorem slD14_3_false_0 (z : Nat → Int) (L : List Int) (h : (!eqb (z 7) 0) = false) : TC Try.prog 68 (sq2 (sq2 in8)) (frL' (fe8 14 (.sl 1 0 L.length 1 true none) 3 0)) 2 (stL (s8' z L)) .normal (frL' (fo8 14 (.sl 1 0 L.length 1 true none) 3)) 2 (stL (s8' z L)) := by
  have e : (oSt (ev8 [(0, false), (1, false), (2, false), (3, false)] [] 2 (sq2 (sq2 in8)) (fe8 14 (.sl 1 0 L.length 1 true none) 3 0) (s8' z L))).ok = okT [(!eqb (z 7) 0) == false, (!eqb (z 7) 0) == false, (!eqb (z 7) 0) == false, (!eqb (z 7) 0) == false] true := by kernel_rfl
  exact tc8 (φ := [(0, false), (1, false), (2, false), (3, false)]) (nils := []) (by kernel_rfl) (e.trans (by rw [h]; rfl)) ⟨by kernel_rfl, by kernel_rfl, by kernel_rfl, by kernel_rfl, trivial⟩ (by kernel_rfl) ⟨by kernel_rfl, by kernel_rfl, trivial⟩
theorem slR14_3 (z : Nat → Int) (L : List Int) (hL : L.length < 65536) (hLe : L = resL z 14) : TC Try.prog 68 o8 (frL' (fo8 14 (.sl 1 0 L.length 1 true none) 3)) 2 (stL (s8' z L)) .normal (frL' (fo8 14 (.sl 1 0 L.length 1 true none) 4)) 2 (stL (s8' z L)) := by
  rw [o8_eq]
  have hr := c14_3 z
  rw [← hLe] at hr
  have hc := hr
  cases hz : eqb (z 7) 0 with
  | false => exact TC.seq (slA3 z 14 L ) (TC.seq (TC.block (TC.seq (slB3 z 14 L ) (TC.seq (slI3 z 14 L hL 0 hc) (slD14_3_true_0 z L (by rw [hz]; rfl)))) (.inl rfl)) (slE3 z 14 L ))
  | true => exact TC.seq (slA3 z 14 L ) (TC.seq (TC.block (TC.seq (slB3 z 14 L ) (TC.seq (slI3 z 14 L hL 0 hc) (slD14_3_false_0 z L (by rw [hz]; rfl)))) (.inl rfl)) (slE3 z 14 L ))
theorem slD14_4_true_0 (z : Nat → Int) (L : List Int) (h : (!eqb (z 9) 0) = true) : TC Try.prog 68 (sq2 (sq2 in8)) (frL' (fe8 14 (.sl 1 0 L.length 1 true none) 4 0)) 2 (stL (s8' z L)) .normal (frL' (fo8 14 (.sl 1 0 L.length 1 true none) 4)) 2 (stL (s8' z L)) := by
  have e : (oSt (ev8 [(0, true), (1, true), (2, true), (3, true)] [] 2 (sq2 (sq2 in8)) (fe8 14 (.sl 1 0 L.length 1 true none) 4 0) (s8' z L))).ok = okT [(!eqb (z 9) 0) == true, (!eqb (z 9) 0) == true, (!eqb (z 9) 0) == true, (!eqb (z 9) 0) == true] true := by kernel_rfl
  exact tc8 (φ := [(0, true), (1, true), (2, true), (3, true)]) (nils := []) (by kernel_rfl) (e.trans (by rw [h]; rfl)) ⟨by kernel_rfl, by kernel_rfl, by kernel_rfl, by kernel_rfl, trivial⟩ (by kernel_rfl) ⟨by kernel_rfl, by kernel_rfl, trivial⟩
theorem slD14_4_false_0 (z : Nat → Int) (L : List Int) (h : (!eqb (z 9) 0) = false) : TC Try.prog 68 (sq2 (sq2 in8)) (frL' (fe8 14 (.sl 1 0 L.length 1 true none) 4 0)) 2 (stL (s8' z L)) .normal (frL' (fo8 14 (.sl 1 0 L.length 1 true none) 4)) 2 (stL (s8' z L)) := by
  have e : (oSt (ev8 [(0, false), (1, false), (2, false), (3, false)] [] 2 (sq2 (sq2 in8)) (fe8 14 (.sl 1 0 L.length 1 true none) 4 0) (s8' z L))).ok = okT [(!eqb (z 9) 0) == false, (!eqb (z 9) 0) == false, (!eqb (z 9) 0) == false, (!eqb (z 9) 0) == false] true := by kernel_rfl
  exact tc8 (φ := [(0, false), (1, false), (2, false), (3, false)]) (nils := []) (by kernel_rfl) (e.trans (by rw [h]; rfl)) ⟨by kernel_rfl, by kernel_rfl, by kernel_rfl, by kernel_rfl, trivial⟩ (by kernel_rfl) ⟨by kernel_rfl, by kernel_rfl, trivial⟩
theorem slR14_4 (z : Nat → Int) (L : List Int) (hL : L.length < 65536) (hLe : L = resL z 14) : TC Try.prog 68 o8 (frL' (fo8 14 (.sl 1 0 L.length 1 true none) 4)) 2 (stL (s8' z L)) .normal (frL' (fo8 14 (.sl 1 0 L.length 1 true none) 5)) 2 (stL (s8' z L)) := by
  rw [o8_eq]
  have hr := c14_4 z
  rw [← hLe] at hr
  have hc := hr
  cases hz : eqb (z 9) 0 with
  | false => exact TC.seq (slA4 z 14 L ) (TC.seq (TC.block (TC.seq (slB4 z 14 L ) (TC.seq (slI4 z 14 L hL 0 hc) (slD14_4_true_0 z L (by rw [hz]; rfl)))) (.inl rfl)) (slE4 z 14 L ))
  | true => exact TC.seq (slA4 z 14 L ) (TC.seq (TC.block (TC.seq (slB4 z 14 L ) (TC.seq (slI4 z 14 L hL 0 hc) (slD14_4_false_0 z L (by rw [hz]; rfl)))) (.inl rfl)) (slE4 z 14 L ))
theorem slD14_5_true_0 (z : Nat → Int) (L : List Int) (h : (!eqb (z 11) 0) = true) : TC Try.prog 68 (sq2 (sq2 in8)) (frL' (fe8 14 (.sl 1 0 L.length 1 true none) 5 0)) 2 (stL (s8' z L)) .normal (frL' (fo8 14 (.sl 1 0 L.length 1 true none) 5)) 2 (stL (s8' z L)) := by
  have e : (oSt (ev8 [(0, true), (1, true), (2, true), (3, true)] [] 2 (sq2 (sq2 in8)) (fe8 14 (.sl 1 0 L.length 1 true none) 5 0) (s8' z L))).ok = okT [(!eqb (z 11) 0) == true, (!eqb (z 11) 0) == true, (!eqb (z 11) 0) == true, (!eqb (z 11) 0) == true] true := by kernel_rfl
  exact tc8 (φ := [(0, true), (1, true), (2, true), (3, true)]) (nils := []) (by kernel_rfl) (e.trans (by rw [h]; rfl)) ⟨by kernel_rfl, by kernel_rfl, by kernel_rfl, by kernel_rfl, trivial⟩ (by kernel_rfl) ⟨by kernel_rfl, by kernel_rfl, trivial⟩
theorem slD14_5_false_0 (z : Nat → Int) (L : List Int) (h : (!eqb (z 11) 0) = false) : TC Try.prog 68 (sq2 (sq2 in8)) (frL' (fe8 14 (.sl 1 0 L.length 1 true none) 5 0)) 2 (stL (s8' z L)) .normal (frL' (fo8 14 (.sl 1 0 L.length 1 true none) 5)) 2 (stL (s8' z L)) := by
  have e : (oSt (ev8 [(0, false), (1, false), (2, false), (3, false)] [] 2 (sq2 (sq2 in8)) (fe8 14 (.sl 1 0 L.length 1 true none) 5 0) (s8' z L))).ok = okT [(!eqb (z 11) 0) == false, (!eqb (z 11) 0) == false, (!eqb (z 11) 0) == false, (!eqb (z 11) 0) == false] true := by kernel_rfl
  exact tc8 (φ := [(0, false), (1, false), (2, false), (3, false)]) (nils := []) (by kernel_rfl) (e.trans (by rw [h]; rfl)) ⟨by kernel_rfl, by kernel_rfl, by kernel_rfl, by kernel_rfl, trivial⟩ (by kernel_rfl) ⟨by kernel_rfl, by kernel_rfl, trivial⟩
theorem slR14_5 (z : Nat → Int) (L : List Int) (hL : L.length < 65536) (hLe : L = resL z 14) : TC Try.prog 68 o8 (frL' (fo8 14 (.sl 1 0 L.length 1 true none) 5)) 2 (stL (s8' z L)) .normal (frL' (fo8 14 (.sl 1 0 L.length 1 true none) 6)) 2 (stL (s8' z L)) := by
  rw [o8_eq]
  have hr := c14_5 z
  rw [← hLe] at hr
  have hc := hr
  cases hz : eqb (z 11) 0 with
  | false => exact TC.seq (slA5 z 14 L ) (TC.seq (TC.block (TC.seq (slB5 z 14 L ) (TC.seq (slI5 z 14 L hL 0 hc) (slD14_5_true_0 z L (by rw [hz]; rfl)))) (.inl rfl)) (slE5 z 14 L ))
  | true => exact TC.seq (slA5 z 14 L ) (TC.seq (TC.block (TC.seq (slB5 z 14 L ) (TC.seq (slI5 z 14 L hL 0 hc) (slD14_5_false_0 z L (by rw [hz]; rfl)))) (.inl rfl)) (slE5 z 14 L ))
theorem slD14_6_true_0 (z : Nat → Int) (L : List Int) (h : (!eqb (z 13) 0) = true) : TC Try.prog 68 (sq2 (sq2 in8)) (frL' (fe8 14 (.sl 1 0 L.length 1 true none) 6 0)) 2 (stL (s8' z L)) .normal (frL' (fo8 14 (.sl 1 0 L.length 1 true none) 6)) 2 (stL (s8' z L)) := by
  have e : (oSt (ev8 [(0, true), (1, true), (2, true), (3, true)] [] 2 (sq2 (sq2 in8)) (fe8 14 (.sl 1 0 L.length 1 true none) 6 0) (s8' z L))).ok = okT [(!eqb (z 13) 0) == true, (!eqb (z 13) 0) == true, (!eqb (z 13) 0) == true, (!eqb (z 13) 0) == true] true := by kernel_rfl
  exact tc8 (φ := [(0, true), (1, true), (2, true), (3, true)]) (nils := []) (by kernel_rfl) (e.trans (by rw [h]; rfl)) ⟨by kernel_rfl, by kernel_rfl, by kernel_rfl, by kernel_rfl, trivial⟩ (by kernel_rfl) ⟨by kernel_rfl, by kernel_rfl, trivial⟩
theorem slD14_6_false_0 (z : Nat → Int) (L : List Int) (h : (!eqb (z 13) 0) = false) : TC Try.prog 68 (sq2 (sq2 in8)) (frL' (fe8 14 (.sl 1 0 L.length 1 true none) 6 0)) 2 (stL (s8' z L)) .normal (frL' (fo8 14 (.sl 1 0 L.length 1 true none) 6)) 2 (stL (s8' z L)) := by
  have e : (oSt (ev8 [(0, false), (1, false), (2, false), (3, false)] [] 2 (sq2 (sq2 in8)) (fe8 14 (.sl 1 0 L.length 1 true none) 6 0) (s8' z L))).ok = okT [(!eqb (z 13) 0) == false, (!eqb (z 13) 0) == false, (!eqb (z 13) 0) == false, (!eqb (z 13) 0) == false] true := by kernel_rfl
  exact tc8 (φ := [(0, false), (1, false), (2, false), (3, false)]) (nils := []) (by kernel_rfl) (e.trans (by rw [h]; rfl)) ⟨by kernel_rfl, by kernel_rfl, by kernel_rfl, by kernel_rfl, trivial⟩ (by kernel_rfl) ⟨by kernel_rfl, by kernel_rfl, trivial⟩
theorem slR14_6 (z : Nat → Int) (L : List Int) (hL : L.length < 65536) (hLe : L = resL z 14) : TC Try.prog 68 o8 (frL' (fo8 14 (.sl 1 0 L.length 1 true none) 6)) 2 (stL (s8' z L)) .normal (frL' (fo8 14 (.sl 1 0 L.length 1 true none) 7)) 2 (stL (s8' z L)) := by
  rw [o8_eq]
  have hr := c14_6 z
  rw [← hLe] at hr
  have hc := hr
  cases hz : eqb (z 13) 0 with
  | false => exact TC.seq (slA6 z 14 L ) (TC.seq (TC.block (TC.seq (slB6 z 14 L ) (TC.seq (slI6 z 14 L hL 0 hc) (slD14_6_true_0 z L (by rw [hz]; rfl)))) (.inl rfl)) (slE6 z 14 L ))
  | true => exact TC.seq (slA6 z 14 L ) (TC.seq (TC.block (TC.seq (slB6 z 14 L ) (TC.seq (slI6 z 14 L hL 0 hc) (slD14_6_false_0 z L (by rw [hz]; rfl)))) (.inl rfl)) (slE6 z 14 L ))
theorem slD14_7_true_1 (z : Nat → Int) (L : List Int) (h : (!eqb (z 15) 0) = true) : TC Try.prog 68 (sq2 (sq2 in8)) (frL' (fe8 14 (.sl 1 0 L.length 1 true none) 7 1)) 2 (stL (s8' z L)) .normal (frL' (fo8 14 (.sl 1 0 L.length 1 true none) 7)) 2 (stL (s8' z L)) := by
  have e : (oSt (ev8 [(0, true), (1, true), (2, true), (3, true)] [] 2 (sq2 (sq2 in8)) (fe8 14 (.sl 1 0 L.length 1 true none) 7 1) (s8' z L))).ok = okT [(!eqb (z 15) 0) == true, (!eqb (z 15) 0) == true, (!eqb (z 15) 0) == true, (!eqb (z 15) 0) == true] true := by kernel_rfl
  exact tc8 (φ := [(0, true), (1, true), (2, true), (3, true)]) (nils := []) (by kernel_rfl) (e.trans (by rw [h]; rfl)) ⟨by kernel_rfl, by kernel_rfl, by kernel_rfl, by kernel_rfl, trivial⟩ (by kernel_rfl) ⟨by kernel_rfl, by kernel_rfl, trivial⟩
theorem slD14_7_false_0 (z : Nat → Int) (L : List Int) (h : (!eqb (z 15) 0) = false) : TC Try.prog 68 (sq2 (sq2 in8)) (frL' (fe8 14 (.sl 1 0 L.length 1 true none) 7 0)) 2 (stL (s8' z L)) .normal (frL' (fo8 14 (.sl 1 0 L.length 1 true none) 7)) 2 (stL (s8' z L)) := by
  have e : (oSt (ev8 [(0, false), (1, false), (2, false), (3, false)] [] 2 (sq2 (sq2 in8)) (fe8 14 (.sl 1 0 L.length 1 true none) 7 0) (s8' z L))).ok = okT [(!eqb (z 15) 0) == false, (!eqb (z 15) 0) == false, (!eqb (z 15) 0) == false, (!eqb (z 15) 0) == false] true := by kernel_rfl
  exact tc8 (φ := [(0, false), (1, false), (2, false), (3, false)]) (nils := []) (by kernel_rfl) (e.trans (by rw [h]; rfl)) ⟨by kernel_rfl, by kernel_rfl, by kernel_rfl, by kernel_rfl, trivial⟩ (by kernel_rfl) ⟨by kernel_rfl, by kernel_rfl, trivial⟩
theorem slD14_7_false_1 (z : Nat → Int) (L : List Int) (h : (!eqb (z 15) 0) = false) : TC Try.prog 68 (sq2 (sq2 in8)) (frL' (fe8 14 (.sl 1 0 L.length 1 true none) 7 1)) 2 (stL (s8' z L)) .normal (frL' (fo8 14 (.sl 1 0 L.length 1 true none) 7)) 2 (stL (s8' z L)) := by
  have e : (oSt (ev8 [(0, false), (1, false), (2, false), (3, false)] [] 2 (sq2 (sq2 in8)) (fe8 14 (.sl 1 0 L.length 1 true none) 7 1) (s8' z L))).ok = okT [(!eqb (z 15) 0) == false, (!eqb (z 15) 0) == false, (!eqb (z 15) 0) == false, (!eqb (z 15) 0) == false] true := by kernel_rfl
  exact tc8 (φ := [(0, false), (1, false), (2, false), (3, false)]) (nils := []) (by kernel_rfl) (e.trans (by rw [h]; rfl)) ⟨by kernel_rfl, by kernel_rfl, by kernel_rfl, by kernel_rfl, trivial⟩ (by kernel_rfl) ⟨by kernel_rfl, by kernel_rfl, trivial⟩
theorem slR14_7 (z : Nat → Int) (L : List Int) (hL : L.length < 65536) (hLe : L = resL z 14) : TC Try.prog 68 o8 (frL' (fo8 14 (.sl 1 0 L.length 1 true none) 7)) 2 (stL (s8' z L)) .normal (frL' (fo8 14 (.sl 1 0 L.length 1 true none) 8)) 2 (stL (s8' z L)) := by
  rw [o8_eq]
  have hr := c14_7 z
  rw [← hLe] at hr
  cases hz : eqb (z 15) 0 with
  | false =>
    have hc := hr.2 hz
    exact TC.seq (slA7 z 14 L ) (TC.seq (TC.block (TC.seq (slB7 z 14 L ) (TC.seq (slI7 z 14 L hL 1 hc) (slD14_7_true_1 z L (by rw [hz]; rfl)))) (.inl rfl)) (slE7 z 14 L ))
  | true =>
    rcases (show ucnt L 7 = 0 ∨ ucnt L 7 = 1 by omega) with hc | hc
    · exact TC.seq (slA7 z 14 L ) (TC.seq (TC.block (TC.seq (slB7 z 14 L ) (TC.seq (slI7 z 14 L hL 0 hc) (slD14_7_false_0 z L (by rw [hz]; rfl)))) (.inl rfl)) (slE7 z 14 L ))
    · exact TC.seq (slA7 z 14 L ) (TC.seq (TC.block (TC.seq (slB7 z 14 L ) (TC.seq (slI7 z 14 L hL 1 hc) (slD14_7_false_1 z L (by rw [hz]; rfl)))) (.inl rfl)) (slE7 z 14 L ))
theorem slW14 (z : Nat → Int) (L : List Int) (hL : L.length < 65536) (hLe : L = resL z 14) : TC Try.prog 68 (.seq (.seq (sq1 (sq1 (sq2 out8))) (.block 0 (.loop o8))) (sq2 (sq2 out8))) (frL' [(1, .sc (.int .i64 14)), (2, .ptr 0 0), (5, (.sl 1 0 L.length 1 true none))]) 2 (stL (s8' z L)) .ret (frL' [(4, .sc (.bool true))]) 2 (stL (s8' z L)) :=
  TC.seq (TC.seq (slS z 14 L ) (TC.block (TC.loop (k := 9) (TR.more (slR14_0 z L hL hLe) (TR.more (slR14_1 z L hL hLe) (TR.more (slR14_2 z L hL hLe) (TR.more (slR14_3 z L hL hLe) (TR.more (slR14_4 z L hL hLe) (TR.more (slR14_5 z L hL hLe) (TR.more (slR14_6 z L hL hLe) (TR.more (slR14_7 z L hL hLe) (TR.out (slX z 14 L ) (by simp))))))))))) (.inr rfl))) (slZ z L )
theorem nilA0 (z : Nat → Int) (v : Int) : TC Try.prog 68 (sq1 o8) (frL' (fo8 v nilV 0)) 1 (stL (s0' z)) .normal (frL' (fo8 v nilV 0)) 1 (stL (s0' z)) := tc8 (φ := []) (nils := []) (by kernel_rfl) (by kernel_rfl) ⟨by kernel_rfl, by kernel_rfl, by kernel_rfl, by kernel_rfl, trivial⟩ (by kernel_rfl) ⟨by kernel_rfl, trivial⟩
theorem nilB0 (z : Nat → Int) (v : Int) : TC Try.prog 68 (sq1 in8) (frL' (fo8 v nilV 0)) 1 (stL (s0' z)) .normal (frL' (fe8 v nilV 0 0)) 1 (stL (s0' z)) := tc8 (φ := []) (nils := []) (by kernel_rfl) (by kernel_rfl) ⟨by kernel_rfl, by kernel_rfl, by kernel_rfl, by kernel_rfl, by kernel_rfl, trivial⟩ (by kernel_rfl) ⟨by kernel_rfl, trivial⟩
theorem nilI0 (z : Nat → Int) (v : Int) : TC Try.prog 68 (.seq (sq1 (sq1 (sq2 in8))) (.block 2 (.loop l8))) (frL' (fe8 v nilV 0 0)) 1 (stL (s0' z)) .normal (frL' (fe8 v nilV 0 0)) 1 (stL (s0' z)) := tc8 (φ := []) (nils := []) (by kernel_rfl) (by kernel_rfl) ⟨by kernel_rfl, by kernel_rfl, by kernel_rfl, by kernel_rfl, by kernel_rfl, trivial⟩ (by kernel_rfl) ⟨by kernel_rfl, trivial⟩
theorem nilE0 (z : Nat → Int) (v : Int) : TC Try.prog 68 (sq2 (sq2 o8)) (frL' (fo8 v nilV 0)) 1 (stL (s0' z)) .normal (frL' (fo8 v nilV 1)) 1 (stL (s0' z)) := tc8 (φ := []) (nils := []) (by kernel_rfl) (by kernel_rfl) ⟨by kernel_rfl, by kernel_rfl, by kernel_rfl, by kernel_rfl, trivial⟩ (by kernel_rfl) ⟨by kernel_rfl, trivial⟩
theorem nilA1 (z : Nat → Int) (v : Int) : TC Try.prog 68 (sq1 o8) (frL' (fo8 v nilV 1)) 1 (stL (s0' z)) .normal (frL' (fo8 v nilV 1)) 1 (stL (s0' z)) := tc8 (φ := []) (nils := []) (by kernel_rfl) (by kernel_rfl) ⟨by kernel_rfl, by kernel_rfl, by kernel_rfl, by kernel_rfl, trivial⟩ (by kernel_rfl) ⟨by kernel_rfl, trivial⟩
theorem nilB1 (z : Nat → Int) (v : Int) : TC Try.prog 68 (sq1 in8) (frL' (fo8 v nilV 1)) 1 (stL (s0' z)) .normal (frL' (fe8 v nilV 1 0)) 1 (stL (s0' z)) := tc8 (φ := []) (nils := []) (by kernel_rfl) (by kernel_rfl) ⟨by kernel_rfl, by kernel_rfl, by kernel_rfl, by kernel_rfl, by kernel_rfl, trivial⟩ (by kernel_rfl) ⟨by kernel_rfl, trivial⟩
theorem nilI1 (z : Nat → Int) (v : Int) : TC Try.prog 68 (.seq (sq1 (sq1 (sq2 in8))) (.block 2 (.loop l8))) (frL' (fe8 v nilV 1 0)) 1 (stL (s0' z)) .normal (frL' (fe8 v nilV 1 0)) 1 (stL (s0' z)) := tc8 (φ := []) (nils := []) (by kernel_rfl) (by kernel_rfl) ⟨by kernel_rfl, by kernel_rfl, by kernel_rfl, by kernel_rfl, by kernel_rfl, trivial⟩ (by kernel_rfl) ⟨by kernel_rfl, trivial⟩
theorem nilE1 (z : Nat → Int) (v : Int) : TC Try.prog 68 (sq2 (sq2 o8)) (frL' (fo8 v nilV 1)) 1 (stL (s0' z)) .normal (frL' (fo8 v nilV 2)) 1 (stL (s0' z)) := tc8 (φ := []) (nils := []) (by kernel_rfl) (by kernel_rfl) ⟨by kernel_rfl, by kernel_rfl, by kernel_rfl, by kernel_rfl, trivial⟩ (by kernel_rfl) ⟨by kernel_rfl, trivial⟩
theorem nilA2 (z : Nat → Int) (v : Int) : TC Try.prog 68 (sq1 o8) (frL' (fo8 v nilV 2)) 1 (stL (s0' z)) .normal (frL' (fo8 v nilV 2)) 1 (stL (s0' z)) := tc8 (φ := []) (nils := []) (by kernel_rfl) (by kernel_rfl) ⟨by kernel_rfl, by kernel_rfl, by kernel_rfl, by kernel_rfl, trivial⟩ (by kernel_rfl) ⟨by kernel_rfl, trivial⟩
theorem nilB2 (z : Nat → Int) (v : Int) : TC Try.prog 68 (sq1 in8) (frL' (fo8 v nilV 2)) 1 (stL (s0' z)) .normal (frL' (fe8 v nilV 2 0)) 1 (stL (s0' z)) := tc8 (φ := []) (nils := []) (by kernel_rfl) (by kernel_rfl) ⟨by kernel_rfl, by kernel_rfl, by kernel_rfl, by kernel_rfl, by kernel_rfl, trivial⟩ (by kernel_rfl) ⟨by kernel_rfl, trivial⟩
theorem nilI2 (z : Nat → Int) (v : Int) : TC Try.prog 68 (.seq (sq1 (sq1 (sq2 in8))) (.block 2 (.loop l8))) (frL' (fe8 v nilV 2 0)) 1 (stL (s0' z)) .normal (frL' (fe8 v nilV 2 0)) 1 (stL (s0' z)) := tc8 (φ := []) (nils := []) (by kernel_rfl) (by kernel_rfl) ⟨by kernel_rfl, by kernel_rfl, by kernel_rfl, by kernel_rfl, by kernel_rfl, trivial⟩ (by kernel_rfl) ⟨by kernel_rfl, trivial⟩
theorem nilE2 (z : Nat → Int) (v : Int) : TC Try.prog 68 (sq2 (sq2 o8)) (frL' (fo8 v nilV 2)) 1 (stL (s0' z)) .normal (frL' (fo8 v nilV 3)) 1 (stL (s0' z)) := tc8 (φ := []) (nils := []) (by kernel_rfl) (by kernel_rfl) ⟨by kernel_rfl, by kernel_rfl, by kernel_rfl, by kernel_rfl, trivial⟩ (by kernel_rfl) ⟨by kernel_rfl, trivial⟩
theorem nilA3 (z : Nat → Int) (v : Int) : TC Try.prog 68 (sq1 o8) (frL' (fo8 v nilV 3)) 1 (stL (s0' z)) .normal (frL' (fo8 v nilV 3)) 1 (stL (s0' z)) := tc8 (φ := []) (nils := []) (by kernel_rfl) (by kernel_rfl) ⟨by kernel_rfl, by kernel_rfl, by kernel_rfl, by kernel_rfl, trivial⟩ (by kernel_rfl) ⟨by kernel_rfl, trivial⟩
theorem nilB3 (z : Nat → Int) (v : Int) : TC Try.prog 68 (sq1 in8) (frL' (fo8 v nilV 3)) 1 (stL (s0' z)) .normal (frL' (fe8 v nilV 3 0)) 1 (stL (s0' z)) := tc8 (φ := []) (nils := []) (by kernel_rfl) (by kernel_rfl) ⟨by kernel_rfl, by kernel_rfl, by kernel_rfl, by kernel_rfl, by kernel_rfl, trivial⟩ (by kernel_rfl) ⟨by kernel_rfl, trivial⟩
theorem nilI3 (z : Nat → Int) (v : Int) : TC Try.prog 68 (.seq (sq1 (sq1 (sq2 in8))) (.block 2 (.loop l8))) (frL' (fe8 v nilV 3 0)) 1 (stL (s0' z)) .normal (frL' (fe8 v nilV 3 0)) 1 (stL (s0' z)) := tc8 (φ := []) (nils := []) (by kernel_rfl) (by kernel_rfl) ⟨by kernel_rfl, by kernel_rfl, by kernel_rfl, by kernel_rfl, by kernel_rfl, trivial⟩ (by kernel_rfl) ⟨by kernel_rfl, trivial⟩
theorem nilE3 (z : Nat → Int) (v : Int) : TC Try.prog 68 (sq2 (sq2 o8)) (frL' (fo8 v nilV 3)) 1 (stL (s0' z)) .normal (frL' (fo8 v nilV 4)) 1 (stL (s0' z)) := tc8 (φ := []) (nils := []) (by kernel_rfl) (by kernel_rfl) ⟨by kernel_rfl, by kernel_rfl, by kernel_rfl, by kernel_rfl, trivial⟩ (by kernel_rfl) ⟨by kernel_rfl, trivial⟩
theorem nilA4 (z : Nat → Int) (v : Int) : TC Try.prog 68 (sq1 o8) (frL' (fo8 v nilV 4)) 1 (stL (s0' z)) .normal (frL' (fo8 v nilV 4)) 1 (stL (s0' z)) := tc8 (φ := []) (nils := []) (by kernel_rfl) (by kernel_rfl) ⟨by kernel_rfl, by kernel_rfl, by kernel_rfl, by kernel_rfl, trivial⟩ (by kernel_rfl) ⟨by kernel_rfl, trivial⟩
theorem nilB4 (z : Nat → Int) (v : Int) : TC Try.prog 68 (sq1 in8) (frL' (fo8 v nilV 4)) 1 (stL (s0' z)) .normal (frL' (fe8 v nilV 4 0)) 1 (stL (s0' z)) := tc8 (φ := []) (nils := []) (by kernel_rfl) (by kernel_rfl) ⟨by kernel_rfl, by kernel_rfl, by kernel_rfl, by kernel_rfl, by kernel_rfl, trivial⟩ (by kernel_rfl) ⟨by kernel_rfl, trivial⟩
theorem nilI4 (z : Nat → Int) (v : Int) : TC Try.prog 68 (.seq (sq1 (sq1 (sq2 in8))) (.block 2 (.loop l8))) (frL' (fe8 v nilV 4 0)) 1 (stL (s0' z)) .normal (frL' (fe8 v nilV 4 0)) 1 (stL (s0' z)) := tc8 (φ := []) (nils := []) (by kernel_rfl) (by kernel_rfl) ⟨by kernel_rfl, by kernel_rfl, by kernel_rfl, by kernel_rfl, by kernel_rfl, trivial⟩ (by kernel_rfl) ⟨by kernel_rfl, trivial⟩
theorem nilE4 (z : Nat → Int) (v : Int) : TC Try.prog 68 (sq2 (sq2 o8)) (frL' (fo8 v nilV 4)) 1 (stL (s0' z)) .normal (frL' (fo8 v nilV 5)) 1 (stL (s0' z)) := tc8 (φ := []) (nils := []) (by kernel_rfl) (by kernel_rfl) ⟨by kernel_rfl, by kernel_rfl, by kernel_rfl, by kernel_rfl, trivial⟩ (by kernel_rfl) ⟨by kernel_rfl, trivial⟩
theorem nilA5 (z : Nat → Int) (v : Int) : TC Try.prog 68 (sq1 o8) (frL' (fo8 v nilV 5)) 1 (stL (s0' z)) .normal (frL' (fo8 v nilV 5)) 1 (stL (s0' z)) := tc8 (φ := []) (nils := []) (by kernel_rfl) (by kernel_rfl) ⟨by kernel_rfl, by kernel_rfl, by kernel_rfl, by kernel_rfl, trivial⟩ (by kernel_rfl) ⟨by kernel_rfl, trivial⟩
theorem nilB5 (z : Nat → Int) (v : Int) : TC Try.prog 68 (sq1 in8) (frL' (fo8 v nilV 5)) 1 (stL (s0' z)) .normal (frL' (fe8 v nilV 5 0)) 1 (stL (s0' z)) := tc8 (φ := []) (nils := []) (by kernel_rfl) (by kernel_rfl) ⟨by kernel_rfl, by kernel_rfl, by kernel_rfl, by kernel_rfl, by kernel_rfl, trivial⟩ (by kernel_rfl) ⟨by kernel_rfl, trivial⟩
theorem nilI5 (z : Nat → Int) (v : Int) : TC Try.prog 68 (.seq (sq1 (sq1 (sq2 in8))) (.block 2 (.loop l8))) (frL' (fe8 v nilV 5 0)) 1 (stL (s0' z)) .normal (frL' (fe8 v nilV 5 0)) 1 (stL (s0' z)) := tc8 (φ := []) (nils := []) (by kernel_rfl) (by kernel_rfl) ⟨by kernel_rfl, by kernel_rfl, by kernel_rfl, by kernel_rfl, by kernel_rfl, trivial⟩ (by kernel_rfl) ⟨by kernel_rfl, trivial⟩
theorem nilE5 (z : Nat → Int) (v : Int) : TC Try.prog 68 (sq2 (sq2 o8)) (frL' (fo8 v nilV 5)) 1 (stL (s0' z)) .normal (frL' (fo8 v nilV 6)) 1 (stL (s0' z)) := tc8 (φ := []) (nils := []) (by kernel_rfl) (by kernel_rfl) ⟨by kernel_rfl, by kernel_rfl, by kernel_rfl, by kernel_rfl, trivial⟩ (by kernel_rfl) ⟨by kernel_rfl, trivial⟩
theorem nilA6 (z : Nat → Int) (v : Int) : TC Try.prog 68 (sq1 o8) (frL' (fo8 v nilV 6)) 1 (stL (s0' z)) .normal (frL' (fo8 v nilV 6)) 1 (stL (s0' z)) := tc8 (φ := []) (nils := []) (by kernel_rfl) (by kernel_rfl) ⟨by kernel_rfl, by kernel_rfl, by kernel_rfl, by kernel_rfl, trivial⟩ (by kernel_rfl) ⟨by kernel_rfl, trivial⟩
theorem nilB6 (z : Nat → Int) (v : Int) : TC Try.prog 68 (sq1 in8) (frL' (fo8 v nilV 6)) 1 (stL (s0' z)) .normal (frL' (fe8 v nilV 6 0)) 1 (stL (s0' z)) := tc8 (φ := []) (nils := []) (by kernel_rfl) (by kernel_rfl) ⟨by kernel_rfl, by kernel_rfl, by kernel_rfl, by kernel_rfl, by kernel_rfl, trivial⟩ (by kernel_rfl) ⟨by kernel_rfl, trivial⟩
theorem nilI6 (z : Nat → Int) (v : Int) : TC Try.prog 68 (.seq (sq1 (sq1 (sq2 in8))) (.block 2 (.loop l8))) (frL' (fe8 v nilV 6 0)) 1 (stL (s0' z)) .normal (frL' (fe8 v nilV 6 0)) 1 (stL (s0' z)) := tc8 (φ := []) (nils := []) (by kernel_rfl) (by kernel_rfl) ⟨by kernel_rfl, by kernel_rfl, by kernel_rfl, by kernel_rfl, by kernel_rfl, trivial⟩ (by kernel_rfl) ⟨by kernel_rfl, trivial⟩
theorem nilE6 (z : Nat → Int) (v : Int) : TC Try.prog 68 (sq2 (sq2 o8)) (frL' (fo8 v nilV 6)) 1 (stL (s0' z)) .normal (frL' (fo8 v nilV 7)) 1 (stL (s0' z)) := tc8 (φ := []) (nils := []) (by kernel_rfl) (by kernel_rfl) ⟨by kernel_rfl, by kernel_rfl, by kernel_rfl, by kernel_rfl, trivial⟩ (by kernel_rfl) ⟨by kernel_rfl, trivial⟩
theorem nilA7 (z : Nat → Int) (v : Int) : TC Try.prog 68 (sq1 o8) (frL' (fo8 v nilV 7)) 1 (stL (s0' z)) .normal (frL' (fo8 v nilV 7)) 1 (stL (s0' z)) := tc8 (φ := []) (nils := []) (by kernel_rfl) (by kernel_rfl) ⟨by kernel_rfl, by kernel_rfl, by kernel_rfl, by kernel_rfl, trivial⟩ (by kernel_rfl) ⟨by kernel_rfl, trivial⟩
theorem nilB7 (z : Nat → Int) (v : Int) : TC Try.prog 68 (sq1 in8) (frL' (fo8 v nilV 7)) 1 (stL (s0' z)) .normal (frL' (fe8 v nilV 7 0)) 1 (stL (s0' z)) := tc8 (φ := []) (nils := []) (by kernel_rfl) (by kernel_rfl) ⟨by kernel_rfl, by kernel_rfl, by kernel_rfl, by kernel_rfl, by kernel_rfl, trivial⟩ (by kernel_rfl) ⟨by kernel_rfl, trivial⟩
theorem nilI7 (z : Nat → Int) (v : Int) : TC Try.prog 68 (.seq (sq1 (sq1 (sq2 in8))) (.block 2 (.loop l8))) (frL' (fe8 v nilV 7 0)) 1 (stL (s0' z)) .normal (frL' (fe8 v nilV 7 0)) 1 (stL (s0' z)) := tc8 (φ := []) (nils := []) (by kernel_rfl) (by kernel_rfl) ⟨by kernel_rfl, by kernel_rfl, by kernel_rfl, by kernel_rfl, by kernel_rfl, trivial⟩ (by kernel_rfl) ⟨by kernel_rfl, trivial⟩
theorem nilE7 (z : Nat → Int) (v : Int) : TC Try.prog 68 (sq2 (sq2 o8)) (frL' (fo8 v nilV 7)) 1 (stL (s0' z)) .normal (frL' (fo8 v nilV 8)) 1 (stL (s0' z)) := tc8 (φ := []) (nils := []) (by kernel_rfl) (by kernel_rfl) ⟨by kernel_rfl, by kernel_rfl, by kernel_rfl, by kernel_rfl, trivial⟩ (by kernel_rfl) ⟨by kernel_rfl, trivial⟩
theorem nilX (z : Nat → Int) (v : Int) : TC Try.prog 68 o8 (frL' (fo8 v nilV 8)) 1 (stL (s0' z)) (.exit 0) (frL' ([])) 1 (stL (s0' z)) := tc8 (φ := []) (nils := []) (by kernel_rfl) (by kernel_rfl) trivial (by kernel_rfl) ⟨by kernel_rfl, trivial⟩
theorem nilZ (z : Nat → Int) : TC Try.prog 68 (sq2 (sq2 out8)) (frL' ([])) 1 (stL (s0' z)) .ret (frL' ([(4, .sc (.bool true))])) 1 (stL (s0' z)) := tc8 (φ := []) (nils := []) (by kernel_rfl) (by kernel_rfl) ⟨by kernel_rfl, trivial⟩ (by kernel_rfl) ⟨by kernel_rfl, trivial⟩
theorem nilS (z : Nat → Int) (v : Int) : TC Try.prog 68 (sq1 (sq1 (sq2 out8))) (frL' ([(1, .sc (.int .i64 v)), (2, .ptr 0 0), (5, nilV)])) 1 (stL (s0' z)) .normal (frL' (fo8 v nilV 0)) 1 (stL (s0' z)) := tc8 (φ := []) (nils := []) (by kernel_rfl) (by kernel_rfl) ⟨by kernel_rfl, by kernel_rfl, by kernel_rfl, by kernel_rfl, trivial⟩ (by kernel_rfl) ⟨by kernel_rfl, trivial⟩
theorem nilD0_0_false_0 (z : Nat → Int) (h : (!eqb (z 1) 0) = false) : TC Try.prog 68 (sq2 (sq2 in8)) (frL' (fe8 0 nilV 0 0)) 1 (stL (s0' z)) .normal (frL' (fo8 0 nilV 0)) 1 (stL (s0' z)) := by
  have e : (oSt (ev8 [(0, false), (1, false), (2, false), (3, false)] [] 1 (sq2 (sq2 in8)) (fe8 0 nilV 0 0) (s0' z))).ok = okT [(!eqb (z 1) 0) == false, (!eqb (z 1) 0) == false, (!eqb (z 1) 0) == false, (!eqb (z 1) 0) == false] true := by kernel_rfl
  exact tc8 (φ := [(0, false), (1, false), (2, false), (3, false)]) (nils := []) (by kernel_rfl) (e.trans (by rw [h]; rfl)) ⟨by kernel_rfl, by kernel_rfl, by kernel_rfl, by kernel_rfl, trivial⟩ (by kernel_rfl) ⟨by kernel_rfl, trivial⟩
theorem nilR0_0 (z : Nat → Int) (hLe : resL z 0 = []) : TC Try.prog 68 o8 (frL' (fo8 0 nilV 0)) 1 (stL (s0' z)) .normal (frL' (fo8 0 nilV 1)) 1 (stL (s0' z)) := by
  rw [o8_eq]
  have hr := c0_0 z
  rw [hLe] at hr
  cases hz : eqb (z 1) 0 with
  | false => exact absurd (hr.2 hz) (by simp [ucnt])
  | true => exact TC.seq (nilA0 z 0 ) (TC.seq (TC.block (TC.seq (nilB0 z 0 ) (TC.seq (nilI0 z 0) (nilD0_0_false_0 z (by rw [hz]; rfl)))) (.inl rfl)) (nilE0 z 0 ))
theorem nilD0_1_true_0 (z : Nat → Int) (h : (!eqb (z 3) 0) = true) : TC Try.prog 68 (sq2 (sq2 in8)) (frL' (fe8 0 nilV 1 0)) 1 (stL (s0' z)) .normal (frL' (fo8 0 nilV 1)) 1 (stL (s0' z)) := by
  have e : (oSt (ev8 [(0, true), (1, true), (2, true), (3, true)] [] 1 (sq2 (sq2 in8)) (fe8 0 nilV 1 0) (s0' z))).ok = okT [(!eqb (z 3) 0) == true, (!eqb (z 3) 0) == true, (!eqb (z 3) 0) == true, (!eqb (z 3) 0) == true] true := by kernel_rfl
  exact tc8 (φ := [(0, true), (1, true), (2, true), (3, true)]) (nils := []) (by kernel_rfl) (e.trans (by rw [h]; rfl)) ⟨by kernel_rfl, by kernel_rfl, by kernel_rfl, by kernel_rfl, trivial⟩ (by kernel_rfl) ⟨by kernel_rfl, trivial⟩
theorem nilD0_1_false_0 (z : Nat → Int) (h : (!eqb (z 3) 0) = false) : TC Try.prog 68 (sq2 (sq2 in8)) (frL' (fe8 0 nilV 1 0)) 1 (stL (s0' z)) .normal (frL' (fo8 0 nilV 1)) 1 (stL (s0' z)) := by
  have e : (oSt (ev8 [(0, false), (1, false), (2, false), (3, false)] [] 1 (sq2 (sq2 in8)) (fe8 0 nilV 1 0) (s0' z))).ok = okT [(!eqb (z 3) 0) == false, (!eqb (z 3) 0) == false, (!eqb (z 3) 0) == false, (!eqb (z 3) 0) == false] true := by kernel_rfl
  exact tc8 (φ := [(0, false), (1, false), (2, false), (3, false)]) (nils := []) (by kernel_rfl) (e.trans (by rw [h]; rfl)) ⟨by kernel_rfl, by kernel_rfl, by kernel_rfl, by kernel_rfl, trivial⟩ (by kernel_rfl) ⟨by kernel_rfl, trivial⟩
theorem nilR0_1 (z : Nat → Int) (hLe : resL z 0 = []) : TC Try.prog 68 o8 (frL' (fo8 0 nilV 1)) 1 (stL (s0' z)) .normal (frL' (fo8 0 nilV 2)) 1 (stL (s0' z)) := by
  rw [o8_eq]
  cases hz : eqb (z 3) 0 with
  | false => exact TC.seq (nilA1 z 0 ) (TC.seq (TC.block (TC.seq (nilB1 z 0 ) (TC.seq (nilI1 z 0) (nilD0_1_true_0 z (by rw [hz]; rfl)))) (.inl rfl)) (nilE1 z 0 ))
  | true => exact TC.seq (nilA1 z 0 ) (TC.seq (TC.block (TC.seq (nilB1 z 0 ) (TC.seq (nilI1 z 0) (nilD0_1_false_0 z (by rw [hz]; rfl)))) (.inl rfl)) (nilE1 z 0 ))
theorem nilD0_2_true_0 (z : Nat → Int) (h : (!eqb (z 5) 0) = true) : TC Try.prog 68 (sq2 (sq2 in8)) (frL' (fe8 0 nilV 2 0)) 1 (stL (s0' z)) .normal (frL' (fo8 0 nilV 2)) 1 (stL (s0' z)) := by
  have e : (oSt (ev8 [(0, true), (1, true), (2, true), (3, true)] [] 1 (sq2 (sq2 in8)) (fe8 0 nilV 2 0) (s0' z))).ok = okT [(!eqb (z 5) 0) == true, (!eqb (z 5) 0) == true, (!eqb (z 5) 0) == true, (!eqb (z 5) 0) == true] true := by kernel_rfl
  exact tc8 (φ := [(0, true), (1, true), (2, true), (3, true)]) (nils := []) (by kernel_rfl) (e.trans (by rw [h]; rfl)) ⟨by kernel_rfl, by kernel_rfl, by kernel_rfl, by kernel_rfl, trivial⟩ (by kernel_rfl) ⟨by kernel_rfl, trivial⟩
theorem nilD0_2_false_0 (z : Nat → Int) (h : (!eqb (z 5) 0) = false) : TC Try.prog 68 (sq2 (sq2 in8)) (frL' (fe8 0 nilV 2 0)) 1 (stL (s0' z)) .normal (frL' (fo8 0 nilV 2)) 1 (stL (s0' z)) := by
  have e : (oSt (ev8 [(0, false), (1, false), (2, false), (3, false)] [] 1 (sq2 (sq2 in8)) (fe8 0 nilV 2 0) (s0' z))).ok = okT [(!eqb (z 5) 0) == false, (!eqb (z 5) 0) == false, (!eqb (z 5) 0) == false, (!eqb (z 5) 0) == false] true := by kernel_rfl
  exact tc8 (φ := [(0, false), (1, false), (2, false), (3, false)]) (nils := []) (by kernel_rfl) (e.trans (by rw [h]; rfl)) ⟨by kernel_rfl, by kernel_rfl, by kernel_rfl, by kernel_rfl, trivial⟩ (by kernel_rfl) ⟨by kernel_rfl, trivial⟩
theorem nilR0_2 (z : Nat → Int) (hLe : resL z 0 = []) : TC Try.prog 68 o8 (frL' (fo8 0 nilV 2)) 1 (stL (s0' z)) .normal (frL' (fo8 0 nilV 3)) 1 (stL (s0' z)) := by
  rw [o8_eq]
  cases hz : eqb (z 5) 0 with
  | false => exact TC.seq (nilA2 z 0 ) (TC.seq (TC.block (TC.seq (nilB2 z 0 ) (TC.seq (nilI2 z 0) (nilD0_2_true_0 z (by rw [hz]; rfl)))) (.inl rfl)) (nilE2 z 0 ))
  | true => exact TC.seq (nilA2 z 0 ) (TC.seq (TC.block (TC.seq (nilB2 z 0 ) (TC.seq (nilI2 z 0) (nilD0_2_false_0 z (by rw [hz]; rfl)))) (.inl rfl)) (nilE2 z 0 ))
theorem nilD0_3_true_0 (z : Nat → Int) (h : (!eqb (z 7) 0) = true) : TC Try.prog 68 (sq2 (sq2 in8)) (frL' (fe8 0 nilV 3 0)) 1 (stL (s0' z)) .normal (frL' (fo8 0 nilV 3)) 1 (stL (s0' z)) := by
  have e : (oSt (ev8 [(0, true), (1, true), (2, true), (3, true)] [] 1 (sq2 (sq2 in8)) (fe8 0 nilV 3 0) (s0' z))).ok = okT [(!eqb (z 7) 0) == true, (!eqb (z 7) 0) == true, (!eqb (z 7) 0) == true, (!eqb (z 7) 0) == true] true := by kernel_rfl
  exact tc8 (φ := [(0, true), (1, true), (2, true), (3, true)]) (nils := []) (by kernel_rfl) (e.trans (by rw [h]; rfl)) ⟨by kernel_rfl, by kernel_rfl, by kernel_rfl, by kernel_rfl, trivial⟩ (by kernel_rfl) ⟨by kernel_rfl, trivial⟩
theorem nilD0_3_false_0 (z : Nat → Int) (h : (!eqb (z 7) 0) = false) : TC Try.prog 68 (sq2 (sq2 in8)) (frL' (fe8 0 nilV 3 0)) 1 (stL (s0' z)) .normal (frL' (fo8 0 nilV 3)) 1 (stL (s0' z)) := by
  have e : (oSt (ev8 [(0, false), (1, false), (2, false), (3, false)] [] 1 (sq2 (sq2 in8)) (fe8 0 nilV 3 0) (s0' z))).ok = okT [(!eqb (z 7) 0) == false, (!eqb (z 7) 0) == false, (!eqb (z 7) 0) == false, (!eqb (z 7) 0) == false] true := by kernel_rfl
  exact tc8 (φ := [(0, false), (1, false), (2, false), (3, false)]) (nils := []) (by kernel_rfl) (e.trans (by rw [h]; rfl)) ⟨by kernel_rfl, by kernel_rfl, by kernel_rfl, by kernel_rfl, trivial⟩ (by kernel_rfl) ⟨by kernel_rfl, trivial⟩
theorem nilR0_3 (z : Nat → Int) (hLe : resL z 0 = []) : TC Try.prog 68 o8 (frL' (fo8 0 nilV 3)) 1 (stL (s0' z)) .normal (frL' (fo8 0 nilV 4)) 1 (stL (s0' z)) := by
  rw [o8_eq]
  cases hz : eqb (z 7) 0 with
  | false => exact TC.seq (nilA3 z 0 ) (TC.seq (TC.block (TC.seq (nilB3 z 0 ) (TC.seq (nilI3 z 0) (nilD0_3_true_0 z (by rw [hz]; rfl)))) (.inl rfl)) (nilE3 z 0 ))
  | true => exact TC.seq (nilA3 z 0 ) (TC.seq (TC.block (TC.seq (nilB3 z 0 ) (TC.seq (nilI3 z 0) (nilD0_3_false_0 z (by rw [hz]; rfl)))) (.inl rfl)) (nilE3 z 0 ))
theorem nilD0_4_true_0 (z : Nat → Int) (h : (!eqb (z 9) 0) = true) : TC Try.prog 68 (sq2 (sq2 in8)) (frL' (fe8 0 nilV 4 0)) 1 (stL (s0' z)) .normal (frL' (fo8 0 nilV 4)) 1 (stL (s0' z)) := by
  have e : (oSt (ev8 [(0, true), (1, true), (2, true), (3, true)] [] 1 (sq2 (sq2 in8)) (fe8 0 nilV 4 0) (s0' z))).ok = okT [(!eqb (z 9) 0) == true, (!eqb (z 9) 0) == true, (!eqb (z 9) 0) == true, (!eqb (z 9) 0) == true] true := by kernel_rfl
  exact tc8 (φ := [(0, true), (1, true), (2, true), (3, true)]) (nils := []) (by kernel_rfl) (e.trans (by rw [h]; rfl)) ⟨by kernel_rfl, by kernel_rfl, by kernel_rfl, by kernel_rfl, trivial⟩ (by kernel_rfl) ⟨by kernel_rfl, trivial⟩
theorem nilD0_4_false_0 (z : Nat → Int) (h : (!eqb (z 9) 0) = false) : TC Try.prog 68 (sq2 (sq2 in8)) (frL' (fe8 0 nilV 4 0)) 1 (stL (s0' z)) .normal (frL' (fo8 0 nilV 4)) 1 (stL (s0' z)) := by
  have e : (oSt (ev8 [(0, false), (1, false), (2, false), (3, false)] [] 1 (sq2 (sq2 in8)) (fe8 0 nilV 4 0) (s0' z))).ok = okT [(!eqb (z 9) 0) == false, (!eqb (z 9) 0) == false, (!eqb (z 9) 0) == false, (!eqb (z 9) 0) == false] true := by kernel_rfl
  exact tc8 (φ := [(0, false), (1, false), (2, false), (3, false)]) (nils := []) (by kernel_rfl) (e.trans (by rw [h]; rfl)) ⟨by kernel_rfl, by kernel_rfl, by kernel_rfl, by kernel_rfl, trivial⟩ (by kernel_rfl) ⟨by kernel_rfl, trivial⟩
theorem nilR0_4 (z : Nat → Int) (hLe : resL z 0 = []) : TC Try.prog 68 o8 (frL' (fo8 0 nilV 4)) 1 (stL (s0' z)) .normal (frL' (fo8 0 nilV 5)) 1 (stL (s0' z)) := by
  rw [o8_eq]
  cases hz : eqb (z 9) 0 with
  | false => exact TC.seq (nilA4 z 0 ) (TC.seq (TC.block (TC.seq (nilB4 z 0 ) (TC.seq (nilI4 z 0) (nilD0_4_true_0 z (by rw [hz]; rfl)))) (.inl rfl)) (nilE4 z 0 ))
  | true => exact TC.seq (nilA4 z 0 ) (TC.seq (TC.block (TC.seq (nilB4 z 0 ) (TC.seq (nilI4 z 0) (nilD0_4_false_0 z (by rw [hz]; rfl)))) (.inl rfl)) (nilE4 z 0 ))
theorem nilD0_5_true_0 (z : Nat → Int) (h : (!eqb (z 11) 0) = true) : TC Try.prog 68 (sq2 (sq2 in8)) (frL' (fe8 0 nilV 5 0)) 1 (stL (s0' z)) .normal (frL' (fo8 0 nilV 5)) 1 (stL (s0' z)) := by
  have e : (oSt (ev8 [(0, true), (1, true), (2, true), (3, true)] [] 1 (sq2 (sq2 in8)) (fe8 0 nilV 5 0) (s0' z))).ok = okT [(!eqb (z 11) 0) == true, (!eqb (z 11) 0) == true, (!eqb (z 11) 0) == true, (!eqb (z 11) 0) == true] true := by kernel_rfl
  exact tc8 (φ := [(0, true), (1, true), (2, true), (3, true)]) (nils := []) (by kernel_rfl) (e.trans (by rw [h]; rfl)) ⟨by kernel_rfl, by kernel_rfl, by kernel_rfl, by kernel_rfl, trivial⟩ (by kernel_rfl) ⟨by kernel_rfl, trivial⟩
theorem nilD0_5_false_0 (z : Nat → Int) (h : (!eqb (z 11) 0) = false) : TC Try.prog 68 (sq2 (sq2 in8)) (frL' (fe8 0 nilV 5 0)) 1 (stL (s0' z)) .normal (frL' (fo8 0 nilV 5)) 1 (stL (s0' z)) := by
  have e : (oSt (ev8 [(0, false), (1, false), (2, false), (3, false)] [] 1 (sq2 (sq2 in8)) (fe8 0 nilV 5 0) (s0' z))).ok = okT [(!eqb (z 11) 0) == false, (!eqb (z 11) 0) == false, (!eqb (z 11) 0) == false, (!eqb (z 11) 0) == false] true := by kernel_rfl
  exact tc8 (φ := [(0, false), (1, false), (2, false), (3, false)]) (nils := []) (by kernel_rfl) (e.trans (by rw [h]; rfl)) ⟨by kernel_rfl, by kernel_rfl, by kernel_rfl, by kernel_rfl, trivial⟩ (by kernel_rfl) ⟨by kernel_rfl, trivial⟩
theorem nilR0_5 (z : Nat → Int) (hLe : resL z 0 = []) : TC Try.prog 68 o8 (frL' (fo8 0 nilV 5)) 1 (stL (s0' z)) .normal (frL' (fo8 0 nilV 6)) 1 (stL (s0' z)) := by
  rw [o8_eq]
  cases hz : eqb (z 11) 0 with
  | false => exact TC.seq (nilA5 z 0 ) (TC.seq (TC.block (TC.seq (nilB5 z 0 ) (TC.seq (nilI5 z 0) (nilD0_5_true_0 z (by rw [hz]; rfl)))) (.inl rfl)) (nilE5 z 0 ))
  | true => exact TC.seq (nilA5 z 0 ) (TC.seq (TC.block (TC.seq (nilB5 z 0 ) (TC.seq (nilI5 z 0) (nilD0_5_false_0 z (by rw [hz]; rfl)))) (.inl rfl)) (nilE5 z 0 ))
theorem nilD0_6_true_0 (z : Nat → Int) (h : (!eqb (z 13) 0) = true) : TC Try.prog 68 (sq2 (sq2 in8)) (frL' (fe8 0 nilV 6 0)) 1 (stL (s0' z)) .normal (frL' (fo8 0 nilV 6)) 1 (stL (s0' z)) := by
  have e : (oSt (ev8 [(0, true), (1, true), (2, true), (3, true)] [] 1 (sq2 (sq2 in8)) (fe8 0 nilV 6 0) (s0' z))).ok = okT [(!eqb (z 13) 0) == true, (!eqb (z 13) 0) == true, (!eqb (z 13) 0) == true, (!eqb (z 13) 0) == true] true := by kernel_rfl
  exact tc8 (φ := [(0, true), (1, true), (2, true), (3, true)]) (nils := []) (by kernel_rfl) (e.trans (by rw [h]; rfl)) ⟨by kernel_rfl, by kernel_rfl, by kernel_rfl, by kernel_rfl, trivial⟩ (by kernel_rfl) ⟨by kernel_rfl, trivial⟩
theorem nilD0_6_false_0 (z : Nat → Int) (h : (!eqb (z 13) 0) = false) : TC Try.prog 68 (sq2 (sq2 in8)) (frL' (fe8 0 nilV 6 0)) 1 (stL (s0' z)) .normal (frL' (fo8 0 nilV 6)) 1 (stL (s0' z)) := by
  have e : (oSt (ev8 [(0, false), (1, false), (2, false), (3, false)] [] 1 (sq2 (sq2 in8)) (fe8 0 nilV 6 0) (s0' z))).ok = okT [(!eqb (z 13) 0) == false, (!eqb (z 13) 0) == false, (!eqb (z 13) 0) == false, (!eqb (z 13) 0) == false] true := by kernel_rfl
  exact tc8 (φ := [(0, false), (1, false), (2, false), (3, false)]) (nils := []) (by kernel_rfl) (e.trans (by rw [h]; rfl)) ⟨by kernel_rfl, by kernel_rfl, by kernel_rfl, by kernel_rfl, trivial⟩ (by kernel_rfl) ⟨by kernel_rfl, trivial⟩
theorem nilR0_6 (z : Nat → Int) (hLe : resL z 0 = []) : TC Try.prog 68 o8 (frL' (fo8 0 nilV 6)) 1 (stL (s0' z)) .normal (frL' (fo8 0 nilV 7)) 1 (stL (s0' z)) := by
  rw [o8_eq]
  cases hz : eqb (z 13) 0 with
  | false => exact TC.seq (nilA6 z 0 ) (TC.seq (TC.block (TC.seq (nilB6 z 0 ) (TC.seq (nilI6 z 0) (nilD0_6_true_0 z (by rw [hz]; rfl)))) (.inl rfl)) (nilE6 z 0 ))
  | true => exact TC.seq (nilA6 z 0 ) (TC.seq (TC.block (TC.seq (nilB6 z 0 ) (TC.seq (nilI6 z 0) (nilD0_6_false_0 z (by rw [hz]; rfl)))) (.inl rfl)) (nilE6 z 0 ))
theorem nilD0_7_true_0 (z : Nat → Int) (h : (!eqb (z 15) 0) = true) : TC Try.prog 68 (sq2 (sq2 in8)) (frL' (fe8 0 nilV 7 0)) 1 (stL (s0' z)) .normal (frL' (fo8 0 nilV 7)) 1 (stL (s0' z)) := by
  have e : (oSt (ev8 [(0, true), (1, true), (2, true), (3, true)] [] 1 (sq2 (sq2 in8)) (fe8 0 nilV 7 0) (s0' z))).ok = okT [(!eqb (z 15) 0) == true, (!eqb (z 15) 0) == true, (!eqb (z 15) 0) == true, (!eqb (z 15) 0) == true] true := by kernel_rfl
  exact tc8 (φ := [(0, true), (1, true), (2, true), (3, true)]) (nils := []) (by kernel_rfl) (e.trans (by rw [h]; rfl)) ⟨by kernel_rfl, by kernel_rfl, by kernel_rfl, by kernel_rfl, trivial⟩ (by kernel_rfl) ⟨by kernel_rfl, trivial⟩
theorem nilD0_7_false_0 (z : Nat → Int) (h : (!eqb (z 15) 0) = false) : TC Try.prog 68 (sq2 (sq2 in8)) (frL' (fe8 0 nilV 7 0)) 1 (stL (s0' z)) .normal (frL' (fo8 0 nilV 7)) 1 (stL (s0' z)) := by
  have e : (oSt (ev8 [(0, false), (1, false), (2, false), (3, false)] [] 1 (sq2 (sq2 in8)) (fe8 0 nilV 7 0) (s0' z))).ok = okT [(!eqb (z 15) 0) == false, (!eqb (z 15) 0) == false, (!eqb (z 15) 0) == false, (!eqb (z 15) 0) == false] true := by kernel_rfl
  exact tc8 (φ := [(0, false), (1, false), (2, false), (3, false)]) (nils := []) (by kernel_rfl) (e.trans (by rw [h]; rfl)) ⟨by kernel_rfl, by kernel_rfl, by kernel_rfl, by kernel_rfl, trivial⟩ (by kernel_rfl) ⟨by kernel_rfl, trivial⟩
theorem nilR0_7 (z : Nat → Int) (hLe : resL z 0 = []) : TC Try.prog 68 o8 (frL' (fo8 0 nilV 7)) 1 (stL (s0' z)) .normal (frL' (fo8 0 nilV 8)) 1 (stL (s0' z)) := by
  rw [o8_eq]
  cases hz : eqb (z 15) 0 with
  | false => exact TC.seq (nilA7 z 0 ) (TC.seq (TC.block (TC.seq (nilB7 z 0 ) (TC.seq (nilI7 z 0) (nilD0_7_true_0 z (by rw [hz]; rfl)))) (.inl rfl)) (nilE7 z 0 ))
  | true => exact TC.seq (nilA7 z 0 ) (TC.seq (TC.block (TC.seq (nilB7 z 0 ) (TC.seq (nilI7 z 0) (nilD0_7_false_0 z (by rw [hz]; rfl)))) (.inl rfl)) (nilE7 z 0 ))
theorem nilW0 (z : Nat → Int) (hLe : resL z 0 = []) : TC Try.prog 68 (.seq (.seq (sq1 (sq1 (sq2 out8))) (.block 0 (.loop o8))) (sq2 (sq2 out8))) (frL' [(1, .sc (.int .i64 0)), (2, .ptr 0 0), (5, nilV)]) 1 (stL (s0' z)) .ret (frL' [(4, .sc (.bool true))]) 1 (stL (s0' z)) :=
  TC.seq (TC.seq (nilS z 0 ) (TC.block (TC.loop (k := 9) (TR.more (nilR0_0 z hLe) (TR.more (nilR0_1 z hLe) (TR.more (nilR0_2 z hLe) (TR.more (nilR0_3 z hLe) (TR.more (nilR0_4 z hLe) (TR.more (nilR0_5 z hLe) (TR.more (nilR0_6 z hLe) (TR.more (nilR0_7 z hLe) (TR.out (nilX z 0 ) (by simp))))))))))) (.inr rfl))) (nilZ z )
theorem nilD1_0_false_0 (z : Nat → Int) (h : (!eqb (z 1) 0) = false) : TC Try.prog 68 (sq2 (sq2 in8)) (frL' (fe8 1 nilV 0 0)) 1 (stL (s0' z)) .normal (frL' (fo8 1 nilV 0)) 1 (stL (s0' z)) := by
  have e : (oSt (ev8 [(0, false), (1, false), (2, false), (3, false)] [] 1 (sq2 (sq2 in8)) (fe8 1 nilV 0 0) (s0' z))).ok = okT [(!eqb (z 1) 0) == false, (!eqb (z 1) 0) == false, (!eqb (z 1) 0) == false, (!eqb (z 1) 0) == false] true := by kernel_rfl
  exact tc8 (φ := [(0, false), (1, false), (2, false), (3, false)]) (nils := []) (by kernel_rfl) (e.trans (by rw [h]; rfl)) ⟨by kernel_rfl, by kernel_rfl, by kernel_rfl, by kernel_rfl, trivial⟩ (by kernel_rfl) ⟨by kernel_rfl, trivial⟩
theorem nilR1_0 (z : Nat → Int) (hLe : resL z 1 = []) : TC Try.prog 68 o8 (frL' (fo8 1 nilV 0)) 1 (stL (s0' z)) .normal (frL' (fo8 1 nilV 1)) 1 (stL (s0' z)) := by
  rw [o8_eq]
  have hr := c1_0 z
  rw [hLe] at hr
  cases hz : eqb (z 1) 0 with
  | false => exact absurd (hr.2 hz) (by simp [ucnt])
  | true => exact TC.seq (nilA0 z 1 ) (TC.seq (TC.block (TC.seq (nilB0 z 1 ) (TC.seq (nilI0 z 1) (nilD1_0_false_0 z (by rw [hz]; rfl)))) (.inl rfl)) (nilE0 z 1 ))
theorem nilD1_1_false_0 (z : Nat → Int) (h : (!eqb (z 3) 0) = false) : TC Try.prog 68 (sq2 (sq2 in8)) (frL' (fe8 1 nilV 1 0)) 1 (stL (s0' z)) .normal (frL' (fo8 1 nilV 1)) 1 (stL (s0' z)) := by
  have e : (oSt (ev8 [(0, false), (1, false), (2, false), (3, false)] [] 1 (sq2 (sq2 in8)) (fe8 1 nilV 1 0) (s0' z))).ok = okT [(!eqb (z 3) 0) == false, (!eqb (z 3) 0) == false, (!eqb (z 3) 0) == false, (!eqb (z 3) 0) == false] true := by kernel_rfl
  exact tc8 (φ := [(0, false), (1, false), (2, false), (3, false)]) (nils := []) (by kernel_rfl) (e.trans (by rw [h]; rfl)) ⟨by kernel_rfl, by kernel_rfl, by kernel_rfl, by kernel_rfl, trivial⟩ (by kernel_rfl) ⟨by kernel_rfl, trivial⟩
theorem nilR1_1 (z : Nat → Int) (hLe : resL z 1 = []) : TC Try.prog 68 o8 (frL' (fo8 1 nilV 1)) 1 (stL (s0' z)) .normal (frL' (fo8 1 nilV 2)) 1 (stL (s0' z)) := by
  rw [o8_eq]
  have hr := c1_1 z
  rw [hLe] at hr
  cases hz : eqb (z 3) 0 with
  | false => exact absurd (hr.2 hz) (by simp [ucnt])
  | true => exact TC.seq (nilA1 z 1 ) (TC.seq (TC.block (TC.seq (nilB1 z 1 ) (TC.seq (nilI1 z 1) (nilD1_1_false_0 z (by rw [hz]; rfl)))) (.inl rfl)) (nilE1 z 1 ))
theorem nilD1_2_true_0 (z : Nat → Int) (h : (!eqb (z 5) 0) = true) : TC Try.prog 68 (sq2 (sq2 in8)) (frL' (fe8 1 nilV 2 0)) 1 (stL (s0' z)) .normal (frL' (fo8 1 nilV 2)) 1 (stL (s0' z)) := by
  have e : (oSt (ev8 [(0, true), (1, true), (2, true), (3, true)] [] 1 (sq2 (sq2 in8)) (fe8 1 nilV 2 0) (s0' z))).ok = okT [(!eqb (z 5) 0) == true, (!eqb (z 5) 0) == true, (!eqb (z 5) 0) == true, (!eqb (z 5) 0) == true] true := by kernel_rfl
  exact tc8 (φ := [(0, true), (1, true), (2, true), (3, true)]) (nils := []) (by kernel_rfl) (e.trans (by rw [h]; rfl)) ⟨by kernel_rfl, by kernel_rfl, by kernel_rfl, by kernel_rfl, trivial⟩ (by kernel_rfl) ⟨by kernel_rfl, trivial⟩
theorem nilD1_2_false_0 (z : Nat → Int) (h : (!eqb (z 5) 0) = false) : TC Try.prog 68 (sq2 (sq2 in8)) (frL' (fe8 1 nilV 2 0)) 1 (stL (s0' z)) .normal (frL' (fo8 1 nilV 2)) 1 (stL (s0' z)) := by
  have e : (oSt (ev8 [(0, false), (1, false), (2, false), (3, false)] [] 1 (sq2 (sq2 in8)) (fe8 1 nilV 2 0) (s0' z))).ok = okT [(!eqb (z 5) 0) == false, (!eqb (z 5) 0) == false, (!eqb (z 5) 0) == false, (!eqb (z 5) 0) == false] true := by kernel_rfl
  exact tc8 (φ := [(0, false), (1, false), (2, false), (3, false)]) (nils := []) (by kernel_rfl) (e.trans (by rw [h]; rfl)) ⟨by kernel_rfl, by kernel_rfl, by kernel_rfl, by kernel_rfl, trivial⟩ (by kernel_rfl) ⟨by kernel_rfl, trivial⟩
theorem nilR1_2 (z : Nat → Int) (hLe : resL z 1 = []) : TC Try.prog 68 o8 (frL' (fo8 1 nilV 2)) 1 (stL (s0' z)) .normal (frL' (fo8 1 nilV 3)) 1 (stL (s0' z)) := by
  rw [o8_eq]
  cases hz : eqb (z 5) 0 with
  | false => exact TC.seq (nilA2 z 1 ) (TC.seq (TC.block (TC.seq (nilB2 z 1 ) (TC.seq (nilI2 z 1) (nilD1_2_true_0 z (by rw [hz]; rfl)))) (.inl rfl)) (nilE2 z 1 ))
  | true => exact TC.seq (nilA2 z 1 ) (TC.seq (TC.block (TC.seq (nilB2 z 1 ) (TC.seq (nilI2 z 1) (nilD1_2_false_0 z (by rw [hz]; rfl)))) (.inl rfl)) (nilE2 z 1 ))
theorem nilD1_3_true_0 (z : Nat → Int) (h : (!eqb (z 7) 0) = true) : TC Try.prog 68 (sq2 (sq2 in8)) (frL' (fe8 1 nilV 3 0)) 1 (stL (s0' z)) .normal (frL' (fo8 1 nilV 3)) 1 (stL (s0' z)) := by
  have e : (oSt (ev8 [(0, true), (1, true), (2, true), (3, true)] [] 1 (sq2 (sq2 in8)) (fe8 1 nilV 3 0) (s0' z))).ok = okT [(!eqb (z 7) 0) == true, (!eqb (z 7) 0) == true, (!eqb (z 7) 0) == true, (!eqb (z 7) 0) == true] true := by kernel_rfl
  exact tc8 (φ := [(0, true), (1, true), (2, true), (3, true)]) (nils := []) (by kernel_rfl) (e.trans (by rw [h]; rfl)) ⟨by kernel_rfl, by kernel_rfl, by kernel_rfl, by kernel_rfl, trivial⟩ (by kernel_rfl) ⟨by kernel_rfl, trivial⟩
theorem nilD1_3_false_0 (z : Nat → Int) (h : (!eqb (z 7) 0) = false) : TC Try.prog 68 (sq2 (sq2 in8)) (frL' (fe8 1 nilV 3 0)) 1 (stL (s0' z)) .normal (frL' (fo8 1 nilV 3)) 1 (stL (s0' z)) := by
  have e : (oSt (ev8 [(0, false), (1, false), (2, false), (3, false)] [] 1 (sq2 (sq2 in8)) (fe8 1 nilV 3 0) (s0' z))).ok = okT [(!eqb (z 7) 0) == false, (!eqb (z 7) 0) == false, (!eqb (z 7) 0) == false, (!eqb (z 7) 0) == false] true := by kernel_rfl
  exact tc8 (φ := [(0, false), (1, false), (2, false), (3, false)]) (nils := []) (by kernel_rfl) (e.trans (by rw [h]; rfl)) ⟨by kernel_rfl, by kernel_rfl, by kernel_rfl, by kernel_rfl, trivial⟩ (by kernel_rfl) ⟨by kernel_rfl, trivial⟩
theorem nilR1_3 (z : Nat → Int) (hLe : resL z 1 = []) : TC Try.prog 68 o8 (frL' (fo8 1 nilV 3)) 1 (stL (s0' z)) .normal (frL' (fo8 1 nilV 4)) 1 (stL (s0' z)) := by
  rw [o8_eq]
  cases hz : eqb (z 7) 0 with
  | false => exact TC.seq (nilA3 z 1 ) (TC.seq (TC.block (TC.seq (nilB3 z 1 ) (TC.seq (nilI3 z 1) (nilD1_3_true_0 z (by rw [hz]; rfl)))) (.inl rfl)) (nilE3 z 1 ))
  | true => exact TC.seq (nilA3 z 1 ) (TC.seq (TC.block (TC.seq (nilB3 z 1 ) (TC.seq (nilI3 z 1) (nilD1_3_false_0 z (by rw [hz]; rfl)))) (.inl rfl)) (nilE3 z 1 ))
theorem nilD1_4_true_0 (z : Nat → Int) (h : (!eqb (z 9) 0) = true) : TC Try.prog 68 (sq2 (sq2 in8)) (frL' (fe8 1 nilV 4 0)) 1 (stL (s0' z)) .normal (frL' (fo8 1 nilV 4)) 1 (stL (s0' z)) := by
  have e : (oSt (ev8 [(0, true), (1, true), (2, true), (3, true)] [] 1 (sq2 (sq2 in8)) (fe8 1 nilV 4 0) (s0' z))).ok = okT [(!eqb (z 9) 0) == true, (!eqb (z 9) 0) == true, (!eqb (z 9) 0) == true, (!eqb (z 9) 0) == true] true := by kernel_rfl
  exact tc8 (φ := [(0, true), (1, true), (2, true), (3, true)]) (nils := []) (by kernel_rfl) (e.trans (by rw [h]; rfl)) ⟨by kernel_rfl, by kernel_rfl, by kernel_rfl, by kernel_rfl, trivial⟩ (by kernel_rfl) ⟨by kernel_rfl, trivial⟩
theorem nilD1_4_false_0 (z : Nat → Int) (h : (!eqb (z 9) 0) = false) : TC Try.prog 68 (sq2 (sq2 in8)) (frL' (fe8 1 nilV 4 0)) 1 (stL (s0' z)) .normal (frL' (fo8 1 nilV 4)) 1 (stL (s0' z)) := by
  have e : (oSt (ev8 [(0, false), (1, false), (2, false), (3, false)] [] 1 (sq2 (sq2 in8)) (fe8 1 nilV 4 0) (s0' z))).ok = okT [(!eqb (z 9) 0) == false, (!eqb (z 9) 0) == false, (!eqb (z 9) 0) == false, (!eqb (z 9) 0) == false] true := by kernel_rfl
  exact tc8 (φ := [(0, false), (1, false), (2, false), (3, false)]) (nils := []) (by kernel_rfl) (e.trans (by rw [h]; rfl)) ⟨by kernel_rfl, by kernel_rfl, by kernel_rfl, by kernel_rfl, trivial⟩ (by kernel_rfl) ⟨by kernel_rfl, trivial⟩
theorem nilR1_4 (z : Nat → Int) (hLe : resL z 1 = []) : TC Try.prog 68 o8 (frL' (fo8 1 nilV 4)) 1 (stL (s0' z)) .normal (frL' (fo8 1 nilV 5)) 1 (stL (s0' z)) := by
  rw [o8_eq]
  cases hz : eqb (z 9) 0 with
  | false => exact TC.seq (nilA4 z 1 ) (TC.seq (TC.block (TC.seq (nilB4 z 1 ) (TC.seq (nilI4 z 1) (nilD1_4_true_0 z (by rw [hz]; rfl)))) (.inl rfl)) (nilE4 z 1 ))
  | true => exact TC.seq (nilA4 z 1 ) (TC.seq (TC.block (TC.seq (nilB4 z 1 ) (TC.seq (nilI4 z 1) (nilD1_4_false_0 z (by rw [hz]; rfl)))) (.inl rfl)) (nilE4 z 1 ))
theorem nilD1_5_true_0 (z : Nat → Int) (h : (!eqb (z 11) 0) = true) : TC Try.prog 68 (sq2 (sq2 in8)) (frL' (fe8 1 nilV 5 0)) 1 (stL (s0' z)) .normal (frL' (fo8 1 nilV 5)) 1 (stL (s0' z)) := by
  have e : (oSt (ev8 [(0, true), (1, true), (2, true), (3, true)] [] 1 (sq2 (sq2 in8)) (fe8 1 nilV 5 0) (s0' z))).ok = okT [(!eqb (z 11) 0) == true, (!eqb (z 11) 0) == true, (!eqb (z 11) 0) == true, (!eqb (z 11) 0) == true] true := by kernel_rfl
  exact tc8 (φ := [(0, true), (1, true), (2, true), (3, true)]) (nils := []) (by kernel_rfl) (e.trans (by rw [h]; rfl)) ⟨by kernel_rfl, by kernel_rfl, by kernel_rfl, by kernel_rfl, trivial⟩ (by kernel_rfl) ⟨by kernel_rfl, trivial⟩
theorem nilD1_5_false_0 (z : Nat → Int) (h : (!eqb (z 11) 0) = false) : TC Try.prog 68 (sq2 (sq2 in8)) (frL' (fe8 1 nilV 5 0)) 1 (stL (s0' z)) .normal (frL' (fo8 1 nilV 5)) 1 (stL (s0' z)) := by
  have e : (oSt (ev8 [(0, false), (1, false), (2, false), (3, false)] [] 1 (sq2 (sq2 in8)) (fe8 1 nilV 5 0) (s0' z))).ok = okT [(!eqb (z 11) 0) == false, (!eqb (z 11) 0) == false, (!eqb (z 11) 0) == false, (!eqb (z 11) 0) == false] true := by kernel_rfl
  exact tc8 (φ := [(0, false), (1, false), (2, false), (3, false)]) (nils := []) (by kernel_rfl) (e.trans (by rw [h]; rfl)) ⟨by kernel_rfl, by kernel_rfl, by kernel_rfl, by kernel_rfl, trivial⟩ (by kernel_rfl) ⟨by kernel_rfl, trivial⟩
theorem nilR1_5 (z : Nat → Int) (hLe : resL z 1 = []) : TC Try.prog 68 o8 (frL' (fo8 1 nilV 5)) 1 (stL (s0' z)) .normal (frL' (fo8 1 nilV 6)) 1 (stL (s0' z)) := by
  rw [o8_eq]
  cases hz : eqb (z 11) 0 with
  | false => exact TC.seq (nilA5 z 1 ) (TC.seq (TC.block (TC.seq (nilB5 z 1 ) (TC.seq (nilI5 z 1) (nilD1_5_true_0 z (by rw [hz]; rfl)))) (.inl rfl)) (nilE5 z 1 ))
  | true => exact TC.seq (nilA5 z 1 ) (TC.seq (TC.block (TC.seq (nilB5 z 1 ) (TC.seq (nilI5 z 1) (nilD1_5_false_0 z (by rw [hz]; rfl)))) (.inl rfl)) (nilE5 z 1 ))
theorem nilD1_6_true_0 (z : Nat → Int) (h : (!eqb (z 13) 0) = true) : TC Try.prog 68 (sq2 (sq2 in8)) (frL' (fe8 1 nilV 6 0)) 1 (stL (s0' z)) .normal (frL' (fo8 1 nilV 6)) 1 (stL (s0' z)) := by
  have e : (oSt (ev8 [(0, true), (1, true), (2, true), (3, true)] [] 1 (sq2 (sq2 in8)) (fe8 1 nilV 6 0) (s0' z))).ok = okT [(!eqb (z 13) 0) == true, (!eqb (z 13) 0) == true, (!eqb (z 13) 0) == true, (!eqb (z 13) 0) == true] true := by kernel_rfl
  exact tc8 (φ := [(0, true), (1, true), (2, true), (3, true)]) (nils := []) (by kernel_rfl) (e.trans (by rw [h]; rfl)) ⟨by kernel_rfl, by kernel_rfl, by kernel_rfl, by kernel_rfl, trivial⟩ (by kernel_rfl) ⟨by kernel_rfl, trivial⟩
theorem nilD1_6_false_0 (z : Nat → Int) (h : (!eqb (z 13) 0) = false) : TC Try.prog 68 (sq2 (sq2 in8)) (frL' (fe8 1 nilV 6 0)) 1 (stL (s0' z)) .normal (frL' (fo8 1 nilV 6)) 1 (stL (s0' z)) := by
  have e : (oSt (ev8 [(0, false), (1, false), (2, false), (3, false)] [] 1 (sq2 (sq2 in8)) (fe8 1 nilV 6 0) (s0' z))).ok = okT [(!eqb (z 13) 0) == false, (!eqb (z 13) 0) == false, (!eqb (z 13) 0) == false, (!eqb (z 13) 0) == false] true := by kernel_rfl
  exact tc8 (φ := [(0, false), (1, false), (2, false), (3, false)]) (nils := []) (by kernel_rfl) (e.trans (by rw [h]; rfl)) ⟨by kernel_rfl, by kernel_rfl, by kernel_rfl, by kernel_rfl, trivial⟩ (by kernel_rfl) ⟨by kernel_rfl, trivial⟩
theorem nilR1_6 (z : Nat → Int) (hLe : resL z 1 = []) : TC Try.prog 68 o8 (frL' (fo8 1 nilV 6)) 1 (stL (s0' z)) .normal (frL' (fo8 1 nilV 7)) 1 (stL (s0' z)) := by
  rw [o8_eq]
  cases hz : eqb (z 13) 0 with
  | false => exact TC.seq (nilA6 z 1 ) (TC.seq (TC.block (TC.seq (nilB6 z 1 ) (TC.seq (nilI6 z 1) (nilD1_6_true_0 z (by rw [hz]; rfl)))) (.inl rfl)) (nilE6 z 1 ))
  | true => exact TC.seq (nilA6 z 1 ) (TC.seq (TC.block (TC.seq (nilB6 z 1 ) (TC.seq (nilI6 z 1) (nilD1_6_false_0 z (by rw [hz]; rfl)))) (.inl rfl)) (nilE6 z 1 ))
theorem nilD1_7_true_0 (z : Nat → Int) (h : (!eqb (z 15) 0) = true) : TC Try.prog 68 (sq2 (sq2 in8)) (frL' (fe8 1 nilV 7 0)) 1 (stL (s0' z)) .normal (frL' (fo8 1 nilV 7)) 1 (stL (s0' z)) := by
  have e : (oSt (ev8 [(0, true), (1, true), (2, true), (3, true)] [] 1 (sq2 (sq2 in8)) (fe8 1 nilV 7 0) (s0' z))).ok = okT [(!eqb (z 15) 0) == true, (!eqb (z 15) 0) == true, (!eqb (z 15) 0) == true, (!eqb (z 15) 0) == true] true := by kernel_rfl
  exact tc8 (φ := [(0, true), (1, true), (2, true), (3, true)]) (nils := []) (by kernel_rfl) (e.trans (by rw [h]; rfl)) ⟨by kernel_rfl, by kernel_rfl, by kernel_rfl, by kernel_rfl, trivial⟩ (by kernel_rfl) ⟨by kernel_rfl, trivial⟩
theorem nilD1_7_false_0 (z : Nat → Int) (h : (!eqb (z 15) 0) = false) : TC Try.prog 68 (sq2 (sq2 in8)) (frL' (fe8 1 nilV 7 0)) 1 (stL (s0' z)) .normal (frL' (fo8 1 nilV 7)) 1 (stL (s0' z)) := by
  have e : (oSt (ev8 [(0, false), (1, false), (2, false), (3, false)] [] 1 (sq2 (sq2 in8)) (fe8 1 nilV 7 0) (s0' z))).ok = okT [(!eqb (z 15) 0) == false, (!eqb (z 15) 0) == false, (!eqb (z 15) 0) == false, (!eqb (z 15) 0) == false] true := by kernel_rfl
  exact tc8 (φ := [(0, false), (1, false), (2, false), (3, false)]) (nils := []) (by kernel_rfl) (e.trans (by rw [h]; rfl)) ⟨by kernel_rfl, by kernel_rfl, by kernel_rfl, by kernel_rfl, trivial⟩ (by kernel_rfl) ⟨by kernel_rfl, trivial⟩
theorem nilR1_7 (z : Nat → Int) (hLe : resL z 1 = []) : TC Try.prog 68 o8 (frL' (fo8 1 nilV 7)) 1 (stL (s0' z)) .normal (frL' (fo8 1 nilV 8)) 1 (stL (s0' z)) := by
  rw [o8_eq]
  cases hz : eqb (z 15) 0 with
  | false => exact TC.seq (nilA7 z 1 ) (TC.seq (TC.block (TC.seq (nilB7 z 1 ) (TC.seq (nilI7 z 1) (nilD1_7_true_0 z (by rw [hz]; rfl)))) (.inl rfl)) (nilE7 z 1 ))
  | true => exact TC.seq (nilA7 z 1 ) (TC.seq (TC.block (TC.seq (nilB7 z 1 ) (TC.seq (nilI7 z 1) (nilD1_7_false_0 z (by rw [hz]; rfl)))) (.inl rfl)) (nilE7 z 1 ))
theorem nilW1 (z : Nat → Int) (hLe : resL z 1 = []) : TC Try.prog 68 (.seq (.seq (sq1 (sq1 (sq2 out8))) (.block 0 (.loop o8))) (sq2 (sq2 out8))) (frL' [(1, .sc (.int .i64 1)), (2, .ptr 0 0), (5, nilV)]) 1 (stL (s0' z)) .ret (frL' [(4, .sc (.bool true))]) 1 (stL (s0' z)) :=
  TC.seq (TC.seq (nilS z 1 ) (TC.block (TC.loop (k := 9) (TR.more (nilR1_0 z hLe) (TR.more (nilR1_1 z hLe) (TR.more (nilR1_2 z hLe) (TR.more (nilR1_3 z hLe) (TR.more (nilR1_4 z hLe) (TR.more (nilR1_5 z hLe) (TR.more (nilR1_6 z hLe) (TR.more (nilR1_7 z hLe) (TR.out (nilX z 1 ) (by simp))))))))))) (.inr rfl))) (nilZ z )
theorem nilD2_0_true_0 (z : Nat → Int) (h : (!eqb (z 1) 0) = true) : TC Try.prog 68 (sq2 (sq2 in8)) (frL' (fe8 2 nilV 0 0)) 1 (stL (s0' z)) .normal (frL' (fo8 2 nilV 0)) 1 (stL (s0' z)) := by
  have e : (oSt (ev8 [(0, true), (1, true), (2, true), (3, true)] [] 1 (sq2 (sq2 in8)) (fe8 2 nilV 0 0) (s0' z))).ok = okT [(!eqb (z 1) 0) == true, (!eqb (z 1) 0) == true, (!eqb (z 1) 0) == true, (!eqb (z 1) 0) == true] true := by kernel_rfl
  exact tc8 (φ := [(0, true), (1, true), (2, true), (3, true)]) (nils := []) (by kernel_rfl) (e.trans (by rw [h]; rfl)) ⟨by kernel_rfl, by kernel_rfl, by kernel_rfl, by kernel_rfl, trivial⟩ (by kernel_rfl) ⟨by kernel_rfl, trivial⟩
theorem nilD2_0_false_0 (z : Nat → Int) (h : (!eqb (z 1) 0) = false) : TC Try.prog 68 (sq2 (sq2 in8)) (frL' (fe8 2 nilV 0 0)) 1 (stL (s0' z)) .normal (frL' (fo8 2 nilV 0)) 1 (stL (s0' z)) := by
  have e : (oSt (ev8 [(0, false), (1, false), (2, false), (3, false)] [] 1 (sq2 (sq2 in8)) (fe8 2 nilV 0 0) (s0' z))).ok = okT [(!eqb (z 1) 0) == false, (!eqb (z 1) 0) == false, (!eqb (z 1) 0) == false, (!eqb (z 1) 0) == false] true := by kernel_rfl
  exact tc8 (φ := [(0, false), (1, false), (2, false), (3, false)]) (nils := []) (by kernel_rfl) (e.trans (by rw [h]; rfl)) ⟨by kernel_rfl, by kernel_rfl, by kernel_rfl, by kernel_rfl, trivial⟩ (by kernel_rfl) ⟨by kernel_rfl, trivial⟩
theorem nilR2_0 (z : Nat → Int) (hLe : resL z 2 = []) : TC Try.prog 68 o8 (frL' (fo8 2 nilV 0)) 1 (stL (s0' z)) .normal (frL' (fo8 2 nilV 1)) 1 (stL (s0' z)) := by
  rw [o8_eq]
  cases hz : eqb (z 1) 0 with
  | false => exact TC.seq (nilA0 z 2 ) (TC.seq (TC.block (TC.seq (nilB0 z 2 ) (TC.seq (nilI0 z 2) (nilD2_0_true_0 z (by rw [hz]; rfl)))) (.inl rfl)) (nilE0 z 2 ))
  | true => exact TC.seq (nilA0 z 2 ) (TC.seq (TC.block (TC.seq (nilB0 z 2 ) (TC.seq (nilI0 z 2) (nilD2_0_false_0 z (by rw [hz]; rfl)))) (.inl rfl)) (nilE0 z 2 ))
theorem nilD2_1_false_0 (z : Nat → Int) (h : (!eqb (z 3) 0) = false) : TC Try.prog 68 (sq2 (sq2 in8)) (frL' (fe8 2 nilV 1 0)) 1 (stL (s0' z)) .normal (frL' (fo8 2 nilV 1)) 1 (stL (s0' z)) := by
  have e : (oSt (ev8 [(0, false), (1, false), (2, false), (3, false)] [] 1 (sq2 (sq2 in8)) (fe8 2 nilV 1 0) (s0' z))).ok = okT [(!eqb (z 3) 0) == false, (!eqb (z 3) 0) == false, (!eqb (z 3) 0) == false, (!eqb (z 3) 0) == false] true := by kernel_rfl
  exact tc8 (φ := [(0, false), (1, false), (2, false), (3, false)]) (nils := []) (by kernel_rfl) (e.trans (by rw [h]; rfl)) ⟨by kernel_rfl, by kernel_rfl, by kernel_rfl, by kernel_rfl, trivial⟩ (by kernel_rfl) ⟨by kernel_rfl, trivial⟩
theorem nilR2_1 (z : Nat → Int) (hLe : resL z 2 = []) : TC Try.prog 68 o8 (frL' (fo8 2 nilV 1)) 1 (stL (s0' z)) .normal (frL' (fo8 2 nilV 2)) 1 (stL (s0' z)) := by
  rw [o8_eq]
  have hr := c2_1 z
  rw [hLe] at hr
  cases hz : eqb (z 3) 0 with
  | false => exact absurd (hr.2 hz) (by simp [ucnt])
  | true => exact TC.seq (nilA1 z 2 ) (TC.seq (TC.block (TC.seq (nilB1 z 2 ) (TC.seq (nilI1 z 2) (nilD2_1_false_0 z (by rw [hz]; rfl)))) (.inl rfl)) (nilE1 z 2 ))
theorem nilD2_2_true_0 (z : Nat → Int) (h : (!eqb (z 5) 0) = true) : TC Try.prog 68 (sq2 (sq2 in8)) (frL' (fe8 2 nilV 2 0)) 1 (stL (s0' z)) .normal (frL' (fo8 2 nilV 2)) 1 (stL (s0' z)) := by
  have e : (oSt (ev8 [(0, true), (1, true), (2, true), (3, true)] [] 1 (sq2 (sq2 in8)) (fe8 2 nilV 2 0) (s0' z))).ok = okT [(!eqb (z 5) 0) == true, (!eqb (z 5) 0) == true, (!eqb (z 5) 0) == true, (!eqb (z 5) 0) == true] true := by kernel_rfl
  exact tc8 (φ := [(0, true), (1, true), (2, true), (3, true)]) (nils := []) (by kernel_rfl) (e.trans (by rw [h]; rfl)) ⟨by kernel_rfl, by kernel_rfl, by kernel_rfl, by kernel_rfl, trivial⟩ (by kernel_rfl) ⟨by kernel_rfl, trivial⟩
theorem nilD2_2_false_0 (z : Nat → Int) (h : (!eqb (z 5) 0) = false) : TC Try.prog 68 (sq2 (sq2 in8)) (frL' (fe8 2 nilV 2 0)) 1 (stL (s0' z)) .normal (frL' (fo8 2 nilV 2)) 1 (stL (s0' z)) := by
  have e : (oSt (ev8 [(0, false), (1, false), (2, false), (3, false)] [] 1 (sq2 (sq2 in8)) (fe8 2 nilV 2 0) (s0' z))).ok = okT [(!eqb (z 5) 0) == false, (!eqb (z 5) 0) == false, (!eqb (z 5) 0) == false, (!eqb (z 5) 0) == false] true := by kernel_rfl
  exact tc8 (φ := [(0, false), (1, false), (2, false), (3, false)]) (nils := []) (by kernel_rfl) (e.trans (by rw [h]; rfl)) ⟨by kernel_rfl, by kernel_rfl, by kernel_rfl, by kernel_rfl, trivial⟩ (by kernel_rfl) ⟨by kernel_rfl, trivial⟩
theorem nilR2_2 (z : Nat → Int) (hLe : resL z 2 = []) : TC Try.prog 68 o8 (frL' (fo8 2 nilV 2)) 1 (stL (s0' z)) .normal (frL' (fo8 2 nilV 3)) 1 (stL (s0' z)) := by
  rw [o8_eq]
  cases hz : eqb (z 5) 0 with
  | false => exact TC.seq (nilA2 z 2 ) (TC.seq (TC.block (TC.seq (nilB2 z 2 ) (TC.seq (nilI2 z 2) (nilD2_2_true_0 z (by rw [hz]; rfl)))) (.inl rfl)) (nilE2 z 2 ))
  | true => exact TC.seq (nilA2 z 2 ) (TC.seq (TC.block (TC.seq (nilB2 z 2 ) (TC.seq (nilI2 z 2) (nilD2_2_false_0 z (by rw [hz]; rfl)))) (.inl rfl)) (nilE2 z 2 ))
theorem nilD2_3_true_0 (z : Nat → Int) (h : (!eqb (z 7) 0) = true) : TC Try.prog 68 (sq2 (sq2 in8)) (frL' (fe8 2 nilV 3 0)) 1 (stL (s0' z)) .normal (frL' (fo8 2 nilV 3)) 1 (stL (s0' z)) := by
  have e : (oSt (ev8 [(0, true), (1, true), (2, true), (3, true)] [] 1 (sq2 (sq2 in8)) (fe8 2 nilV 3 0) (s0' z))).ok = okT [(!eqb (z 7) 0) == true, (!eqb (z 7) 0) == true, (!eqb (z 7) 0) == true, (!eqb (z 7) 0) == true] true := by kernel_rfl
  exact tc8 (φ := [(0, true), (1, true), (2, true), (3, true)]) (nils := []) (by kernel_rfl) (e.trans (by rw [h]; rfl)) ⟨by kernel_rfl, by kernel_rfl, by kernel_rfl, by kernel_rfl, trivial⟩ (by kernel_rfl) ⟨by kernel_rfl, trivial⟩
theorem nilD2_3_false_0 (z : Nat → Int) (h : (!eqb (z 7) 0) = false) : TC Try.prog 68 (sq2 (sq2 in8)) (frL' (fe8 2 nilV 3 0)) 1 (stL (s0' z)) .normal (frL' (fo8 2 nilV 3)) 1 (stL (s0' z)) := by
  have e : (oSt (ev8 [(0, false), (1, false), (2, false), (3, false)] [] 1 (sq2 (sq2 in8)) (fe8 2 nilV 3 0) (s0' z))).ok = okT [(!eqb (z 7) 0) == false, (!eqb (z 7) 0) == false, (!eqb (z 7) 0) == false, (!eqb (z 7) 0) == false] true := by kernel_rfl
  exact tc8 (φ := [(0, false), (1, false), (2, false), (3, false)]) (nils := []) (by kernel_rfl) (e.trans (by rw [h]; rfl)) ⟨by kernel_rfl, by kernel_rfl, by kernel_rfl, by kernel_rfl, trivial⟩ (by kernel_rfl) ⟨by kernel_rfl, trivial⟩
theorem nilR2_3 (z : Nat → Int) (hLe : resL z 2 = []) : TC Try.prog 68 o8 (frL' (fo8 2 nilV 3)) 1 (stL (s0' z)) .normal (frL' (fo8 2 nilV 4)) 1 (stL (s0' z)) := by
  rw [o8_eq]
  cases hz : eqb (z 7) 0 with
  | false => exact TC.seq (nilA3 z 2 ) (TC.seq (TC.block (TC.seq (nilB3 z 2 ) (TC.seq (nilI3 z 2) (nilD2_3_true_0 z (by rw [hz]; rfl)))) (.inl rfl)) (nilE3 z 2 ))
  | true => exact TC.seq (nilA3 z 2 ) (TC.seq (TC.block (TC.seq (nilB3 z 2 ) (TC.seq (nilI3 z 2) (nilD2_3_false_0 z (by rw [hz]; rfl)))) (.inl rfl)) (nilE3 z 2 ))
theorem nilD2_4_true_0 (z : Nat → Int) (h : (!eqb (z 9) 0) = true) : TC Try.prog 68 (sq2 (sq2 in8)) (frL' (fe8 2 nilV 4 0)) 1 (stL (s0' z)) .normal (frL' (fo8 2 nilV 4)) 1 (stL (s0' z)) := by
  have e : (oSt (ev8 [(0, true), (1, true), (2, true), (3, true)] [] 1 (sq2 (sq2 in8)) (fe8 2 nilV 4 0) (s0' z))).ok = okT [(!eqb (z 9) 0) == true, (!eqb (z 9) 0) == true, (!eqb (z 9) 0) == true, (!eqb (z 9) 0) == true] true := by kernel_rfl
  exact tc8 (φ := [(0, true), (1, true), (2, true), (3, true)]) (nils := []) (by kernel_rfl) (e.trans (by rw [h]; rfl)) ⟨by kernel_rfl, by kernel_rfl, by kernel_rfl, by kernel_rfl, trivial⟩ (by kernel_rfl) ⟨by kernel_rfl, trivial⟩
theorem nilD2_4_false_0 (z : Nat → Int) (h : (!eqb (z 9) 0) = false) : TC Try.prog 68 (sq2 (sq2 in8)) (frL' (fe8 2 nilV 4 0)) 1 (stL (s0' z)) .normal (frL' (fo8 2 nilV 4)) 1 (stL (s0' z)) := by
  have e : (oSt (ev8 [(0, false), (1, false), (2, false), (3, false)] [] 1 (sq2 (sq2 in8)) (fe8 2 nilV 4 0) (s0' z))).ok = okT [(!eqb (z 9) 0) == false, (!eqb (z 9) 0) == false, (!eqb (z 9) 0) == false, (!eqb (z 9) 0) == false] true := by kernel_rfl
  exact tc8 (φ := [(0, false), (1, false), (2, false), (3, false)]) (nils := []) (by kernel_rfl) (e.trans (by rw [h]; rfl)) ⟨by kernel_rfl, by kernel_rfl, by kernel_rfl, by kernel_rfl, trivial⟩ (by kernel_rfl) ⟨by kernel_rfl, trivial⟩
theorem nilR2_4 (z : Nat → Int) (hLe : resL z 2 = []) : TC Try.prog 68 o8 (frL' (fo8 2 nilV 4)) 1 (stL (s0' z)) .normal (frL' (fo8 2 nilV 5)) 1 (stL (s0' z)) := by
  rw [o8_eq]
  cases hz : eqb (z 9) 0 with
  | false => exact TC.seq (nilA4 z 2 ) (TC.seq (TC.block (TC.seq (nilB4 z 2 ) (TC.seq (nilI4 z 2) (nilD2_4_true_0 z (by rw [hz]; rfl)))) (.inl rfl)) (nilE4 z 2 ))
  | true => exact TC.seq (nilA4 z 2 ) (TC.seq (TC.block (TC.seq (nilB4 z 2 ) (TC.seq (nilI4 z 2) (nilD2_4_false_0 z (by rw [hz]; rfl)))) (.inl rfl)) (nilE4 z 2 ))
theorem nilD2_5_true_0 (z : Nat → Int) (h : (!eqb (z 11) 0) = true) : TC Try.prog 68 (sq2 (sq2 in8)) (frL' (fe8 2 nilV 5 0)) 1 (stL (s0' z)) .normal (frL' (fo8 2 nilV 5)) 1 (stL (s0' z)) := by
  have e : (oSt (ev8 [(0, true), (1, true), (2, true), (3, true)] [] 1 (sq2 (sq2 in8)) (fe8 2 nilV 5 0) (s0' z))).ok = okT [(!eqb (z 11) 0) == true, (!eqb (z 11) 0) == true, (!eqb (z 11) 0) == true, (!eqb (z 11) 0) == true] true := by kernel_rfl
  exact tc8 (φ := [(0, true), (1, true), (2, true), (3, true)]) (nils := []) (by kernel_rfl) (e.trans (by rw [h]; rfl)) ⟨by kernel_rfl, by kernel_rfl, by kernel_rfl, by kernel_rfl, trivial⟩ (by kernel_rfl) ⟨by kernel_rfl, trivial⟩
theorem nilD2_5_false_0 (z : Nat → Int) (h : (!eqb (z 11) 0) = false) : TC Try.prog 68 (sq2 (sq2 in8)) (frL' (fe8 2 nilV 5 0)) 1 (stL (s0' z)) .normal (frL' (fo8 2 nilV 5)) 1 (stL (s0' z)) := by
  have e : (oSt (ev8 [(0, false), (1, false), (2, false), (3, false)] [] 1 (sq2 (sq2 in8)) (fe8 2 nilV 5 0) (s0' z))).ok = okT [(!eqb (z 11) 0) == false, (!eqb (z 11) 0) == false, (!eqb (z 11) 0) == false, (!eqb (z 11) 0) == false] true := by kernel_rfl
  exact tc8 (φ := [(0, false), (1, false), (2, false), (3, false)]) (nils := []) (by kernel_rfl) (e.trans (by rw [h]; rfl)) ⟨by kernel_rfl, by kernel_rfl, by kernel_rfl, by kernel_rfl, trivial⟩ (by kernel_rfl) ⟨by kernel_rfl, trivial⟩
theorem nilR2_5 (z : Nat → Int) (hLe : resL z 2 = []) : TC Try.prog 68 o8 (frL' (fo8 2 nilV 5)) 1 (stL (s0' z)) .normal (frL' (fo8 2 nilV 6)) 1 (stL (s0' z)) := by
  rw [o8_eq]
  cases hz : eqb (z 11) 0 with
  | false => exact TC.seq (nilA5 z 2 ) (TC.seq (TC.block (TC.seq (nilB5 z 2 ) (TC.seq (nilI5 z 2) (nilD2_5_true_0 z (by rw [hz]; rfl)))) (.inl rfl)) (nilE5 z 2 ))
  | true => exact TC.seq (nilA5 z 2 ) (TC.seq (TC.block (TC.seq (nilB5 z 2 ) (TC.seq (nilI5 z 2) (nilD2_5_false_0 z (by rw [hz]; rfl)))) (.inl rfl)) (nilE5 z 2 ))
theorem nilD2_6_true_0 (z : Nat → Int) (h : (!eqb (z 13) 0) = true) : TC Try.prog 68 (sq2 (sq2 in8)) (frL' (fe8 2 nilV 6 0)) 1 (stL (s0' z)) .normal (frL' (fo8 2 nilV 6)) 1 (stL (s0' z)) := by
  have e : (oSt (ev8 [(0, true), (1, true), (2, true), (3, true)] [] 1 (sq2 (sq2 in8)) (fe8 2 nilV 6 0) (s0' z))).ok = okT [(!eqb (z 13) 0) == true, (!eqb (z 13) 0) == true, (!eqb (z 13) 0) == true, (!eqb (z 13) 0) == true] true := by kernel_rfl
  exact tc8 (φ := [(0, true), (1, true), (2, true), (3, true)]) (nils := []) (by kernel_rfl) (e.trans (by rw [h]; rfl)) ⟨by kernel_rfl, by kernel_rfl, by kernel_rfl, by kernel_rfl, trivial⟩ (by kernel_rfl) ⟨by kernel_rfl, trivial⟩
theorem nilD2_6_false_0 (z : Nat → Int) (h : (!eqb (z 13) 0) = false) : TC Try.prog 68 (sq2 (sq2 in8)) (frL' (fe8 2 nilV 6 0)) 1 (stL (s0' z)) .normal (frL' (fo8 2 nilV 6)) 1 (stL (s0' z)) := by
  have e : (oSt (ev8 [(0, false), (1, false), (2, false), (3, false)] [] 1 (sq2 (sq2 in8)) (fe8 2 nilV 6 0) (s0' z))).ok = okT [(!eqb (z 13) 0) == false, (!eqb (z 13) 0) == false, (!eqb (z 13) 0) == false, (!eqb (z 13) 0) == false] true := by kernel_rfl
  exact tc8 (φ := [(0, false), (1, false), (2, false), (3, false)]) (nils := []) (by kernel_rfl) (e.trans (by rw [h]; rfl)) ⟨by kernel_rfl, by kernel_rfl, by kernel_rfl, by kernel_rfl, trivial⟩ (by kernel_rfl) ⟨by kernel_rfl, trivial⟩
theorem nilR2_6 (z : Nat → Int) (hLe : resL z 2 = []) : TC Try.prog 68 o8 (frL' (fo8 2 nilV 6)) 1 (stL (s0' z)) .normal (frL' (fo8 2 nilV 7)) 1 (stL (s0' z)) := by
  rw [o8_eq]
  cases hz : eqb (z 13) 0 with
  | false => exact TC.seq (nilA6 z 2 ) (TC.seq (TC.block (TC.seq (nilB6 z 2 ) (TC.seq (nilI6 z 2) (nilD2_6_true_0 z (by rw [hz]; rfl)))) (.inl rfl)) (nilE6 z 2 ))
  | true => exact TC.seq (nilA6 z 2 ) (TC.seq (TC.block (TC.seq (nilB6 z 2 ) (TC.seq (nilI6 z 2) (nilD2_6_false_0 z (by rw [hz]; rfl)))) (.inl rfl)) (nilE6 z 2 ))
theorem nilD2_7_true_0 (z : Nat → Int) (h : (!eqb (z 15) 0) = true) : TC Try.prog 68 (sq2 (sq2 in8)) (frL' (fe8 2 nilV 7 0)) 1 (stL (s0' z)) .normal (frL' (fo8 2 nilV 7)) 1 (stL (s0' z)) := by
  have e : (oSt (ev8 [(0, true), (1, true), (2, true), (3, true)] [] 1 (sq2 (sq2 in8)) (fe8 2 nilV 7 0) (s0' z))).ok = okT [(!eqb (z 15) 0) == true, (!eqb (z 15) 0) == true, (!eqb (z 15) 0) == true, (!eqb (z 15) 0) == true] true := by kernel_rfl
  exact tc8 (φ := [(0, true), (1, true), (2, true), (3, true)]) (nils := []) (by kernel_rfl) (e.trans (by rw [h]; rfl)) ⟨by kernel_rfl, by kernel_rfl, by kernel_rfl, by kernel_rfl, trivial⟩ (by kernel_rfl) ⟨by kernel_rfl, trivial⟩
theorem nilD2_7_false_0 (z : Nat → Int) (h : (!eqb (z 15) 0) = false) : TC Try.prog 68 (sq2 (sq2 in8)) (frL' (fe8 2 nilV 7 0)) 1 (stL (s0' z)) .normal (frL' (fo8 2 nilV 7)) 1 (stL (s0' z)) := by
  have e : (oSt (ev8 [(0, false), (1, false), (2, false), (3, false)] [] 1 (sq2 (sq2 in8)) (fe8 2 nilV 7 0) (s0' z))).ok = okT [(!eqb (z 15) 0) == false, (!eqb (z 15) 0) == false, (!eqb (z 15) 0) == false, (!eqb (z 15) 0) == false] true := by kernel_rfl
  exact tc8 (φ := [(0, false), (1, false), (2, false), (3, false)]) (nils := []) (by kernel_rfl) (e.trans (by rw [h]; rfl)) ⟨by kernel_rfl, by kernel_rfl, by kernel_rfl, by kernel_rfl, trivial⟩ (by kernel_rfl) ⟨by kernel_rfl, trivial⟩
theorem nilR2_7 (z : Nat → Int) (hLe : resL z 2 = []) : TC Try.prog 68 o8 (frL' (fo8 2 nilV 7)) 1 (stL (s0' z)) .normal (frL' (fo8 2 nilV 8)) 1 (stL (s0' z)) := by
  rw [o8_eq]
  cases hz : eqb (z 15) 0 with
  | false => exact TC.seq (nilA7 z 2 ) (TC.seq (TC.block (TC.seq (nilB7 z 2 ) (TC.seq (nilI7 z 2) (nilD2_7_true_0 z (by rw [hz]; rfl)))) (.inl rfl)) (nilE7 z 2 ))
  | true => exact TC.seq (nilA7 z 2 ) (TC.seq (TC.block (TC.seq (nilB7 z 2 ) (TC.seq (nilI7 z 2) (nilD2_7_false_0 z (by rw [hz]; rfl)))) (.inl rfl)) (nilE7 z 2 ))
theorem nilW2 (z : Nat → Int) (hLe : resL z 2 = []) : TC Try.prog 68 (.seq (.seq (sq1 (sq1 (sq2 out8))) (.block 0 (.loop o8))) (sq2 (sq2 out8))) (frL' [(1, .sc (.int .i64 2)), (2, .ptr 0 0), (5, nilV)]) 1 (stL (s0' z)) .ret (frL' [(4, .sc (.bool true))]) 1 (stL (s0' z)) :=
  TC.seq (TC.seq (nilS z 2 ) (TC.block (TC.loop (k := 9) (TR.more (nilR2_0 z hLe) (TR.more (nilR2_1 z hLe) (TR.more (nilR2_2 z hLe) (TR.more (nilR2_3 z hLe) (TR.more (nilR2_4 z hLe) (TR.more (nilR2_5 z hLe) (TR.more (nilR2_6 z hLe) (TR.more (nilR2_7 z hLe) (TR.out (nilX z 2 ) (by simp))))))))))) (.inr rfl))) (nilZ z )
theorem nilD3_0_false_0 (z : Nat → Int) (h : (!eqb (z 1) 0) = false) : TC Try.prog 68 (sq2 (sq2 in8)) (frL' (fe8 3 nilV 0 0)) 1 (stL (s0' z)) .normal (frL' (fo8 3 nilV 0)) 1 (stL (s0' z)) := by
  have e : (oSt (ev8 [(0, false), (1, false), (2, false), (3, false)] [] 1 (sq2 (sq2 in8)) (fe8 3 nilV 0 0) (s0' z))).ok = okT [(!eqb (z 1) 0) == false, (!eqb (z 1) 0) == false, (!eqb (z 1) 0) == false, (!eqb (z 1) 0) == false] true := by kernel_rfl
  exact tc8 (φ := [(0, false), (1, false), (2, false), (3, false)]) (nils := []) (by kernel_rfl) (e.trans (by rw [h]; rfl)) ⟨by kernel_rfl, by kernel_rfl, by kernel_rfl, by kernel_rfl, trivial⟩ (by kernel_rfl) ⟨by kernel_rfl, trivial⟩
theorem nilR3_0 (z : Nat → Int) (hLe : resL z 3 = []) : TC Try.prog 68 o8 (frL' (fo8 3 nilV 0)) 1 (stL (s0' z)) .normal (frL' (fo8 3 nilV 1)) 1 (stL (s0' z)) := by
  rw [o8_eq]
  have hr := c3_0 z
  rw [hLe] at hr
  cases hz : eqb (z 1) 0 with
  | false => exact absurd (hr.2 hz) (by simp [ucnt])
  | true => exact TC.seq (nilA0 z 3 ) (TC.seq (TC.block (TC.seq (nilB0 z 3 ) (TC.seq (nilI0 z 3) (nilD3_0_false_0 z (by rw [hz]; rfl)))) (.inl rfl)) (nilE0 z 3 ))
theorem nilD3_1_false_0 (z : Nat → Int) (h : (!eqb (z 3) 0) = false) : TC Try.prog 68 (sq2 (sq2 in8)) (frL' (fe8 3 nilV 1 0)) 1 (stL (s0' z)) .normal (frL' (fo8 3 nilV 1)) 1 (stL (s0' z)) := by
  have e : (oSt (ev8 [(0, false), (1, false), (2, false), (3, false)] [] 1 (sq2 (sq2 in8)) (fe8 3 nilV 1 0) (s0' z))).ok = okT [(!eqb (z 3) 0) == false, (!eqb (z 3) 0) == false, (!eqb (z 3) 0) == false, (!eqb (z 3) 0) == false] true := by kernel_rfl
  exact tc8 (φ := [(0, false), (1, false), (2, false), (3, false)]) (nils := []) (by kernel_rfl) (e.trans (by rw [h]; rfl)) ⟨by kernel_rfl, by kernel_rfl, by kernel_rfl, by kernel_rfl, trivial⟩ (by kernel_rfl) ⟨by kernel_rfl, trivial⟩
theorem nilR3_1 (z : Nat → Int) (hLe : resL z 3 = []) : TC Try.prog 68 o8 (frL' (fo8 3 nilV 1)) 1 (stL (s0' z)) .normal (frL' (fo8 3 nilV 2)) 1 (stL (s0' z)) := by
  rw [o8_eq]
  have hr := c3_1 z
  rw [hLe] at hr
  cases hz : eqb (z 3) 0 with
  | false => exact absurd (hr.2 hz) (by simp [ucnt])
  | true => exact TC.seq (nilA1 z 3 ) (TC.seq (TC.block (TC.seq (nilB1 z 3 ) (TC.seq (nilI1 z 3) (nilD3_1_false_0 z (by rw [hz]; rfl)))) (.inl rfl)) (nilE1 z 3 ))
theorem nilD3_2_false_0 (z : Nat → Int) (h : (!eqb (z 5) 0) = false) : TC Try.prog 68 (sq2 (sq2 in8)) (frL' (fe8 3 nilV 2 0)) 1 (stL (s0' z)) .normal (frL' (fo8 3 nilV 2)) 1 (stL (s0' z)) := by
  have e : (oSt (ev8 [(0, false), (1, false), (2, false), (3, false)] [] 1 (sq2 (sq2 in8)) (fe8 3 nilV 2 0) (s0' z))).ok = okT [(!eqb (z 5) 0) == false, (!eqb (z 5) 0) == false, (!eqb (z 5) 0) == false, (!eqb (z 5) 0) == false] true := by kernel_rfl
  exact tc8 (φ := [(0, false), (1, false), (2, false), (3, false)]) (nils := []) (by kernel_rfl) (e.trans (by rw [h]; rfl)) ⟨by kernel_rfl, by kernel_rfl, by kernel_rfl, by kernel_rfl, trivial⟩ (by kernel_rfl) ⟨by kernel_rfl, trivial⟩
theorem nilR3_2 (z : Nat → Int) (hLe : resL z 3 = []) : TC Try.prog 68 o8 (frL' (fo8 3 nilV 2)) 1 (stL (s0' z)) .normal (frL' (fo8 3 nilV 3)) 1 (stL (s0' z)) := by
  rw [o8_eq]
  have hr := c3_2 z
  rw [hLe] at hr
  cases hz : eqb (z 5) 0 with
  | false => exact absurd (hr.2 hz) (by simp [ucnt])
  | true => exact TC.seq (nilA2 z 3 ) (TC.seq (TC.block (TC.seq (nilB2 z 3 ) (TC.seq (nilI2 z 3) (nilD3_2_false_0 z (by rw [hz]; rfl)))) (.inl rfl)) (nilE2 z 3 ))
theorem nilD3_3_false_0 (z : Nat → Int) (h : (!eqb (z 7) 0) = false) : TC Try.prog 68 (sq2 (sq2 in8)) (frL' (fe8 3 nilV 3 0)) 1 (stL (s0' z)) .normal (frL' (fo8 3 nilV 3)) 1 (stL (s0' z)) := by
  have e : (oSt (ev8 [(0, false), (1, false), (2, false), (3, false)] [] 1 (sq2 (sq2 in8)) (fe8 3 nilV 3 0) (s0' z))).ok = okT [(!eqb (z 7) 0) == false, (!eqb (z 7) 0) == false, (!eqb (z 7) 0) == false, (!eqb (z 7) 0) == false] true := by kernel_rfl
  exact tc8 (φ := [(0, false), (1, false), (2, false), (3, false)]) (nils := []) (by kernel_rfl) (e.trans (by rw [h]; rfl)) ⟨by kernel_rfl, by kernel_rfl, by kernel_rfl, by kernel_rfl, trivial⟩ (by kernel_rfl) ⟨by kernel_rfl, trivial⟩
theorem nilR3_3 (z : Nat → Int) (hLe : resL z 3 = []) : TC Try.prog 68 o8 (frL' (fo8 3 nilV 3)) 1 (stL (s0' z)) .normal (frL' (fo8 3 nilV 4)) 1 (stL (s0' z)) := by
  rw [o8_eq]
  have hr := c3_3 z
  rw [hLe] at hr
  cases hz : eqb (z 7) 0 with
  | false => exact absurd (hr.2 hz) (by simp [ucnt])
  | true => exact TC.seq (nilA3 z 3 ) (TC.seq (TC.block (TC.seq (nilB3 z 3 ) (TC.seq (nilI3 z 3) (nilD3_3_false_0 z (by rw [hz]; rfl)))) (.inl rfl)) (nilE3 z 3 ))
theorem nilD3_4_true_0 (z : Nat → Int) (h : (!eqb (z 9) 0) = true) : TC Try.prog 68 (sq2 (sq2 in8)) (frL' (fe8 3 nilV 4 0)) 1 (stL (s0' z)) .normal (frL' (fo8 3 nilV 4)) 1 (stL (s0' z)) := by
  have e : (oSt (ev8 [(0, true), (1, true), (2, true), (3, true)] [] 1 (sq2 (sq2 in8)) (fe8 3 nilV 4 0) (s0' z))).ok = okT [(!eqb (z 9) 0) == true, (!eqb (z 9) 0) == true, (!eqb (z 9) 0) == true, (!eqb (z 9) 0) == true] true := by kernel_rfl
  exact tc8 (φ := [(0, true), (1, true), (2, true), (3, true)]) (nils := []) (by kernel_rfl) (e.trans (by rw [h]; rfl)) ⟨by kernel_rfl, by kernel_rfl, by kernel_rfl, by kernel_rfl, trivial⟩ (by kernel_rfl) ⟨by kernel_rfl, trivial⟩
theorem nilD3_4_false_0 (z : Nat → Int) (h : (!eqb (z 9) 0) = false) : TC Try.prog 68 (sq2 (sq2 in8)) (frL' (fe8 3 nilV 4 0)) 1 (stL (s0' z)) .normal (frL' (fo8 3 nilV 4)) 1 (stL (s0' z)) := by
  have e : (oSt (ev8 [(0, false), (1, false), (2, false), (3, false)] [] 1 (sq2 (sq2 in8)) (fe8 3 nilV 4 0) (s0' z))).ok = okT [(!eqb (z 9) 0) == false, (!eqb (z 9) 0) == false, (!eqb (z 9) 0) == false, (!eqb (z 9) 0) == false] true := by kernel_rfl
  exact tc8 (φ := [(0, false), (1, false), (2, false), (3, false)]) (nils := []) (by kernel_rfl) (e.trans (by rw [h]; rfl)) ⟨by kernel_rfl, by kernel_rfl, by kernel_rfl, by kernel_rfl, trivial⟩ (by kernel_rfl) ⟨by kernel_rfl, trivial⟩
theorem nilR3_4 (z : Nat → Int) (hLe : resL z 3 = []) : TC Try.prog 68 o8 (frL' (fo8 3 nilV 4)) 1 (stL (s0' z)) .normal (frL' (fo8 3 nilV 5)) 1 (stL (s0' z)) := by
  rw [o8_eq]
  cases hz : eqb (z 9) 0 with
  | false => exact TC.seq (nilA4 z 3 ) (TC.seq (TC.block (TC.seq (nilB4 z 3 ) (TC.seq (nilI4 z 3) (nilD3_4_true_0 z (by rw [hz]; rfl)))) (.inl rfl)) (nilE4 z 3 ))
  | true => exact TC.seq (nilA4 z 3 ) (TC.seq (TC.block (TC.seq (nilB4 z 3 ) (TC.seq (nilI4 z 3) (nilD3_4_false_0 z (by rw [hz]; rfl)))) (.inl rfl)) (nilE4 z 3 ))
theorem nilD3_5_true_0 (z : Nat → Int) (h : (!eqb (z 11) 0) = true) : TC Try.prog 68 (sq2 (sq2 in8)) (frL' (fe8 3 nilV 5 0)) 1 (stL (s0' z)) .normal (frL' (fo8 3 nilV 5)) 1 (stL (s0' z)) := by
  have e : (oSt (ev8 [(0, true), (1, true), (2, true), (3, true)] [] 1 (sq2 (sq2 in8)) (fe8 3 nilV 5 0) (s0' z))).ok = okT [(!eqb (z 11) 0) == true, (!eqb (z 11) 0) == true, (!eqb (z 11) 0) == true, (!eqb (z 11) 0) == true] true := by kernel_rfl
  exact tc8 (φ := [(0, true), (1, true), (2, true), (3, true)]) (nils := []) (by kernel_rfl) (e.trans (by rw [h]; rfl)) ⟨by kernel_rfl, by kernel_rfl, by kernel_rfl, by kernel_rfl, trivial⟩ (by kernel_rfl) ⟨by kernel_rfl, trivial⟩
theorem nilD3_5_false_0 (z : Nat → Int) (h : (!eqb (z 11) 0) = false) : TC Try.prog 68 (sq2 (sq2 in8)) (frL' (fe8 3 nilV 5 0)) 1 (stL (s0' z)) .normal (frL' (fo8 3 nilV 5)) 1 (stL (s0' z)) := by
  have e : (oSt (ev8 [(0, false), (1, false), (2, false), (3, false)] [] 1 (sq2 (sq2 in8)) (fe8 3 nilV 5 0) (s0' z))).ok = okT [(!eqb (z 11) 0) == false, (!eqb (z 11) 0) == false, (!eqb (z 11) 0) == false, (!eqb (z 11) 0) == false] true := by kernel_rfl
  exact tc8 (φ := [(0, false), (1, false), (2, false), (3, false)]) (nils := []) (by kernel_rfl) (e.trans (by rw [h]; rfl)) ⟨by kernel_rfl, by kernel_rfl, by kernel_rfl, by kernel_rfl, trivial⟩ (by kernel_rfl) ⟨by kernel_rfl, trivial⟩
theorem nilR3_5 (z : Nat → Int) (hLe : resL z 3 = []) : TC Try.prog 68 o8 (frL' (fo8 3 nilV 5)) 1 (stL (s0' z)) .normal (frL' (fo8 3 nilV 6)) 1 (stL (s0' z)) := by
  rw [o8_eq]
  cases hz : eqb (z 11) 0 with
  | false => exact TC.seq (nilA5 z 3 ) (TC.seq (TC.block (TC.seq (nilB5 z 3 ) (TC.seq (nilI5 z 3) (nilD3_5_true_0 z (by rw [hz]; rfl)))) (.inl rfl)) (nilE5 z 3 ))
  | true => exact TC.seq (nilA5 z 3 ) (TC.seq (TC.block (TC.seq (nilB5 z 3 ) (TC.seq (nilI5 z 3) (nilD3_5_false_0 z (by rw [hz]; rfl)))) (.inl rfl)) (nilE5 z 3 ))
theorem nilD3_6_true_0 (z : Nat → Int) (h : (!eqb (z 13) 0) = true) : TC Try.prog 68 (sq2 (sq2 in8)) (frL' (fe8 3 nilV 6 0)) 1 (stL (s0' z)) .normal (frL' (fo8 3 nilV 6)) 1 (stL (s0' z)) := by
  have e : (oSt (ev8 [(0, true), (1, true), (2, true), (3, true)] [] 1 (sq2 (sq2 in8)) (fe8 3 nilV 6 0) (s0' z))).ok = okT [(!eqb (z 13) 0) == true, (!eqb (z 13) 0) == true, (!eqb (z 13) 0) == true, (!eqb (z 13) 0) == true] true := by kernel_rfl
  exact tc8 (φ := [(0, true), (1, true), (2, true), (3, true)]) (nils := []) (by kernel_rfl) (e.trans (by rw [h]; rfl)) ⟨by kernel_rfl, by kernel_rfl, by kernel_rfl, by kernel_rfl, trivial⟩ (by kernel_rfl) ⟨by kernel_rfl, trivial⟩
theorem nilD3_6_false_0 (z : Nat → Int) (h : (!eqb (z 13) 0) = false) : TC Try.prog 68 (sq2 (sq2 in8)) (frL' (fe8 3 nilV 6 0)) 1 (stL (s0' z)) .normal (frL' (fo8 3 nilV 6)) 1 (stL (s0' z)) := by
  have e : (oSt (ev8 [(0, false), (1, false), (2, false), (3, false)] [] 1 (sq2 (sq2 in8)) (fe8 3 nilV 6 0) (s0' z))).ok = okT [(!eqb (z 13) 0) == false, (!eqb (z 13) 0) == false, (!eqb (z 13) 0) == false, (!eqb (z 13) 0) == false] true := by kernel_rfl
  exact tc8 (φ := [(0, false), (1, false), (2, false), (3, false)]) (nils := []) (by kernel_rfl) (e.trans (by rw [h]; rfl)) ⟨by kernel_rfl, by kernel_rfl, by kernel_rfl, by kernel_rfl, trivial⟩ (by kernel_rfl) ⟨by kernel_rfl, trivial⟩
theorem nilR3_6 (z : Nat → Int) (hLe : resL z 3 = []) : TC Try.prog 68 o8 (frL' (fo8 3 nilV 6)) 1 (stL (s0' z)) .normal (frL' (fo8 3 nilV 7)) 1 (stL (s0' z)) := by
  rw [o8_eq]
  cases hz : eqb (z 13) 0 with
  | false => exact TC.seq (nilA6 z 3 ) (TC.seq (TC.block (TC.seq (nilB6 z 3 ) (TC.seq (nilI6 z 3) (nilD3_6_true_0 z (by rw [hz]; rfl)))) (.inl rfl)) (nilE6 z 3 ))
  | true => exact TC.seq (nilA6 z 3 ) (TC.seq (TC.block (TC.seq (nilB6 z 3 ) (TC.seq (nilI6 z 3) (nilD3_6_false_0 z (by rw [hz]; rfl)))) (.inl rfl)) (nilE6 z 3 ))
theorem nilD3_7_true_0 (z : Nat → Int) (h : (!eqb (z 15) 0) = true) : TC Try.prog 68 (sq2 (sq2 in8)) (frL' (fe8 3 nilV 7 0)) 1 (stL (s0' z)) .normal (frL' (fo8 3 nilV 7)) 1 (stL (s0' z)) := by
  have e : (oSt (ev8 [(0, true), (1, true), (2, true), (3, true)] [] 1 (sq2 (sq2 in8)) (fe8 3 nilV 7 0) (s0' z))).ok = okT [(!eqb (z 15) 0) == true, (!eqb (z 15) 0) == true, (!eqb (z 15) 0) == true, (!eqb (z 15) 0) == true] true := by kernel_rfl
  exact tc8 (φ := [(0, true), (1, true), (2, true), (3, true)]) (nils := []) (by kernel_rfl) (e.trans (by rw [h]; rfl)) ⟨by kernel_rfl, by kernel_rfl, by kernel_rfl, by kernel_rfl, trivial⟩ (by kernel_rfl) ⟨by kernel_rfl, trivial⟩
theorem nilD3_7_false_0 (z : Nat → Int) (h : (!eqb (z 15) 0) = false) : TC Try.prog 68 (sq2 (sq2 in8)) (frL' (fe8 3 nilV 7 0)) 1 (stL (s0' z)) .normal (frL' (fo8 3 nilV 7)) 1 (stL (s0' z)) := by
  have e : (oSt (ev8 [(0, false), (1, false), (2, false), (3, false)] [] 1 (sq2 (sq2 in8)) (fe8 3 nilV 7 0) (s0' z))).ok = okT [(!eqb (z 15) 0) == false, (!eqb (z 15) 0) == false, (!eqb (z 15) 0) == false, (!eqb (z 15) 0) == false] true := by kernel_rfl
  exact tc8 (φ := [(0, false), (1, false), (2, false), (3, false)]) (nils := []) (by kernel_rfl) (e.trans (by rw [h]; rfl)) ⟨by kernel_rfl, by kernel_rfl, by kernel_rfl, by kernel_rfl, trivial⟩ (by kernel_rfl) ⟨by kernel_rfl, trivial⟩
theorem nilR3_7 (z : Nat → Int) (hLe : resL z 3 = []) : TC Try.prog 68 o8 (frL' (fo8 3 nilV 7)) 1 (stL (s0' z)) .normal (frL' (fo8 3 nilV 8)) 1 (stL (s0' z)) := by
  rw [o8_eq]
  cases hz : eqb (z 15) 0 with
  | false => exact TC.seq (nilA7 z 3 ) (TC.seq (TC.block (TC.seq (nilB7 z 3 ) (TC.seq (nilI7 z 3) (nilD3_7_true_0 z (by rw [hz]; rfl)))) (.inl rfl)) (nilE7 z 3 ))
  | true => exact TC.seq (nilA7 z 3 ) (TC.seq (TC.block (TC.seq (nilB7 z 3 ) (TC.seq (nilI7 z 3) (nilD3_7_false_0 z (by rw [hz]; rfl)))) (.inl rfl)) (nilE7 z 3 ))
theorem nilW3 (z : Nat → Int) (hLe : resL z 3 = []) : TC Try.prog 68 (.seq (.seq (sq1 (sq1 (sq2 out8))) (.block 0 (.loop o8))) (sq2 (sq2 out8))) (frL' [(1, .sc (.int .i64 3)), (2, .ptr 0 0), (5, nilV)]) 1 (stL (s0' z)) .ret (frL' [(4, .sc (.bool true))]) 1 (stL (s0' z)) :=
  TC.seq (TC.seq (nilS z 3 ) (TC.block (TC.loop (k := 9) (TR.more (nilR3_0 z hLe) (TR.more (nilR3_1 z hLe) (TR.more (nilR3_2 z hLe) (TR.more (nilR3_3 z hLe) (TR.more (nilR3_4 z hLe) (TR.more (nilR3_5 z hLe) (TR.more (nilR3_6 z hLe) (TR.more (nilR3_7 z hLe) (TR.out (nilX z 3 ) (by simp))))))))))) (.inr rfl))) (nilZ z )
theorem nilD4_0_true_0 (z : Nat → Int) (h : (!eqb (z 1) 0) = true) : TC Try.prog 68 (sq2 (sq2 in8)) (frL' (fe8 4 nilV 0 0)) 1 (stL (s0' z)) .normal (frL' (fo8 4 nilV 0)) 1 (stL (s0' z)) := by
  have e : (oSt (ev8 [(0, true), (1, true), (2, true), (3, true)] [] 1 (sq2 (sq2 in8)) (fe8 4 nilV 0 0) (s0' z))).ok = okT [(!eqb (z 1) 0) == true, (!eqb (z 1) 0) == true, (!eqb (z 1) 0) == true, (!eqb (z 1) 0) == true] true := by kernel_rfl
  exact tc8 (φ := [(0, true), (1, true), (2, true), (3, true)]) (nils := []) (by kernel_rfl) (e.trans (by rw [h]; rfl)) ⟨by kernel_rfl, by kernel_rfl, by kernel_rfl, by kernel_rfl, trivial⟩ (by kernel_rfl) ⟨by kernel_rfl, trivial⟩
theorem nilD4_0_false_0 (z : Nat → Int) (h : (!eqb (z 1) 0) = false) : TC Try.prog 68 (sq2 (sq2 in8)) (frL' (fe8 4 nilV 0 0)) 1 (stL (s0' z)) .normal (frL' (fo8 4 nilV 0)) 1 (stL (s0' z)) := by
  have e : (oSt (ev8 [(0, false), (1, false), (2, false), (3, false)] [] 1 (sq2 (sq2 in8)) (fe8 4 nilV 0 0) (s0' z))).ok = okT [(!eqb (z 1) 0) == false, (!eqb (z 1) 0) == false, (!eqb (z 1) 0) == false, (!eqb (z 1) 0) == false] true := by kernel_rfl
  exact tc8 (φ := [(0, false), (1, false), (2, false), (3, false)]) (nils := []) (by kernel_rfl) (e.trans (by rw [h]; rfl)) ⟨by kernel_rfl, by kernel_rfl, by kernel_rfl, by kernel_rfl, trivial⟩ (by kernel_rfl) ⟨by kernel_rfl, trivial⟩
theorem nilR4_0 (z : Nat → Int) (hLe : resL z 4 = []) : TC Try.prog 68 o8 (frL' (fo8 4 nilV 0)) 1 (stL (s0' z)) .normal (frL' (fo8 4 nilV 1)) 1 (stL (s0' z)) := by
  rw [o8_eq]
  cases hz : eqb (z 1) 0 with
  | false => exact TC.seq (nilA0 z 4 ) (TC.seq (TC.block (TC.seq (nilB0 z 4 ) (TC.seq (nilI0 z 4) (nilD4_0_true_0 z (by rw [hz]; rfl)))) (.inl rfl)) (nilE0 z 4 ))
  | true => exact TC.seq (nilA0 z 4 ) (TC.seq (TC.block (TC.seq (nilB0 z 4 ) (TC.seq (nilI0 z 4) (nilD4_0_false_0 z (by rw [hz]; rfl)))) (.inl rfl)) (nilE0 z 4 ))
theorem nilD4_1_true_0 (z : Nat → Int) (h : (!eqb (z 3) 0) = true) : TC Try.prog 68 (sq2 (sq2 in8)) (frL' (fe8 4 nilV 1 0)) 1 (stL (s0' z)) .normal (frL' (fo8 4 nilV 1)) 1 (stL (s0' z)) := by
  have e : (oSt (ev8 [(0, true), (1, true), (2, true), (3, true)] [] 1 (sq2 (sq2 in8)) (fe8 4 nilV 1 0) (s0' z))).ok = okT [(!eqb (z 3) 0) == true, (!eqb (z 3) 0) == true, (!eqb (z 3) 0) == true, (!eqb (z 3) 0) == true] true := by kernel_rfl
  exact tc8 (φ := [(0, true), (1, true), (2, true), (3, true)]) (nils := []) (by kernel_rfl) (e.trans (by rw [h]; rfl)) ⟨by kernel_rfl, by kernel_rfl, by kernel_rfl, by kernel_rfl, trivial⟩ (by kernel_rfl) ⟨by kernel_rfl, trivial⟩
theorem nilD4_1_false_0 (z : Nat → Int) (h : (!eqb (z 3) 0) = false) : TC Try.prog 68 (sq2 (sq2 in8)) (frL' (fe8 4 nilV 1 0)) 1 (stL (s0' z)) .normal (frL' (fo8 4 nilV 1)) 1 (stL (s0' z)) := by
  have e : (oSt (ev8 [(0, false), (1, false), (2, false), (3, false)] [] 1 (sq2 (sq2 in8)) (fe8 4 nilV 1 0) (s0' z))).ok = okT [(!eqb (z 3) 0) == false, (!eqb (z 3) 0) == false, (!eqb (z 3) 0) == false, (!eqb (z 3) 0) == false] true := by kernel_rfl
  exact tc8 (φ := [(0, false), (1, false), (2, false), (3, false)]) (nils := []) (by kernel_rfl) (e.trans (by rw [h]; rfl)) ⟨by kernel_rfl, by kernel_rfl, by kernel_rfl, by kernel_rfl, trivial⟩ (by kernel_rfl) ⟨by kernel_rfl, trivial⟩
theorem nilR4_1 (z : Nat → Int) (hLe : resL z 4 = []) : TC Try.prog 68 o8 (frL' (fo8 4 nilV 1)) 1 (stL (s0' z)) .normal (frL' (fo8 4 nilV 2)) 1 (stL (s0' z)) := by
  rw [o8_eq]
  cases hz : eqb (z 3) 0 with
  | false => exact TC.seq (nilA1 z 4 ) (TC.seq (TC.block (TC.seq (nilB1 z 4 ) (TC.seq (nilI1 z 4) (nilD4_1_true_0 z (by rw [hz]; rfl)))) (.inl rfl)) (nilE1 z 4 ))
  | true => exact TC.seq (nilA1 z 4 ) (TC.seq (TC.block (TC.seq (nilB1 z 4 ) (TC.seq (nilI1 z 4) (nilD4_1_false_0 z (by rw [hz]; rfl)))) (.inl rfl)) (nilE1 z 4 ))
theorem nilD4_2_false_0 (z : Nat → Int) (h : (!eqb (z 5) 0) = false) : TC Try.prog 68 (sq2 (sq2 in8)) (frL' (fe8 4 nilV 2 0)) 1 (stL (s0' z)) .normal (frL' (fo8 4 nilV 2)) 1 (stL (s0' z)) := by
  have e : (oSt (ev8 [(0, false), (1, false), (2, false), (3, false)] [] 1 (sq2 (sq2 in8)) (fe8 4 nilV 2 0) (s0' z))).ok = okT [(!eqb (z 5) 0) == false, (!eqb (z 5) 0) == false, (!eqb (z 5) 0) == false, (!eqb (z 5) 0) == false] true := by kernel_rfl
  exact tc8 (φ := [(0, false), (1, false), (2, false), (3, false)]) (nils := []) (by kernel_rfl) (e.trans (by rw [h]; rfl)) ⟨by kernel_rfl, by kernel_rfl, by kernel_rfl, by kernel_rfl, trivial⟩ (by kernel_rfl) ⟨by kernel_rfl, trivial⟩
theorem nilR4_2 (z : Nat → Int) (hLe : resL z 4 = []) : TC Try.prog 68 o8 (frL' (fo8 4 nilV 2)) 1 (stL (s0' z)) .normal (frL' (fo8 4 nilV 3)) 1 (stL (s0' z)) := by
  rw [o8_eq]
  have hr := c4_2 z
  rw [hLe] at hr
  cases hz : eqb (z 5) 0 with
  | false => exact absurd (hr.2 hz) (by simp [ucnt])
  | true => exact TC.seq (nilA2 z 4 ) (TC.seq (TC.block (TC.seq (nilB2 z 4 ) (TC.seq (nilI2 z 4) (nilD4_2_false_0 z (by rw [hz]; rfl)))) (.inl rfl)) (nilE2 z 4 ))
theorem nilD4_3_true_0 (z : Nat → Int) (h : (!eqb (z 7) 0) = true) : TC Try.prog 68 (sq2 (sq2 in8)) (frL' (fe8 4 nilV 3 0)) 1 (stL (s0' z)) .normal (frL' (fo8 4 nilV 3)) 1 (stL (s0' z)) := by
  have e : (oSt (ev8 [(0, true), (1, true), (2, true), (3, true)] [] 1 (sq2 (sq2 in8)) (fe8 4 nilV 3 0) (s0' z))).ok = okT [(!eqb (z 7) 0) == true, (!eqb (z 7) 0) == true, (!eqb (z 7) 0) == true, (!eqb (z 7) 0) == true] true := by kernel_rfl
  exact tc8 (φ := [(0, true), (1, true), (2, true), (3, true)]) (nils := []) (by kernel_rfl) (e.trans (by rw [h]; rfl)) ⟨by kernel_rfl, by kernel_rfl, by kernel_rfl, by kernel_rfl, trivial⟩ (by kernel_rfl) ⟨by kernel_rfl, trivial⟩
theorem nilD4_3_false_0 (z : Nat → Int) (h : (!eqb (z 7) 0) = false) : TC Try.prog 68 (sq2 (sq2 in8)) (frL' (fe8 4 nilV 3 0)) 1 (stL (s0' z)) .normal (frL' (fo8 4 nilV 3)) 1 (stL (s0' z)) := by
  have e : (oSt (ev8 [(0, false), (1, false), (2, false), (3, false)] [] 1 (sq2 (sq2 in8)) (fe8 4 nilV 3 0) (s0' z))).ok = okT [(!eqb (z 7) 0) == false, (!eqb (z 7) 0) == false, (!eqb (z 7) 0) == false, (!eqb (z 7) 0) == false] true := by kernel_rfl
  exact tc8 (φ := [(0, false), (1, false), (2, false), (3, false)]) (nils := []) (by kernel_rfl) (e.trans (by rw [h]; rfl)) ⟨by kernel_rfl, by kernel_rfl, by kernel_rfl, by kernel_rfl, trivial⟩ (by kernel_rfl) ⟨by kernel_rfl, trivial⟩
theorem nilR4_3 (z : Nat → Int) (hLe : resL z 4 = []) : TC Try.prog 68 o8 (frL' (fo8 4 nilV 3)) 1 (stL (s0' z)) .normal (frL' (fo8 4 nilV 4)) 1 (stL (s0' z)) := by
  rw [o8_eq]
  cases hz : eqb (z 7) 0 with
  | false => exact TC.seq (nilA3 z 4 ) (TC.seq (TC.block (TC.seq (nilB3 z 4 ) (TC.seq (nilI3 z 4) (nilD4_3_true_0 z (by rw [hz]; rfl)))) (.inl rfl)) (nilE3 z 4 ))
  | true => exact TC.seq (nilA3 z 4 ) (TC.seq (TC.block (TC.seq (nilB3 z 4 ) (TC.seq (nilI3 z 4) (nilD4_3_false_0 z (by rw [hz]; rfl)))) (.inl rfl)) (nilE3 z 4 ))
theorem nilD4_4_true_0 (z : Nat → Int) (h : (!eqb (z 9) 0) = true) : TC Try.prog 68 (sq2 (sq2 in8)) (frL' (fe8 4 nilV 4 0)) 1 (stL (s0' z)) .normal (frL' (fo8 4 nilV 4)) 1 (stL (s0' z)) := by
  have e : (oSt (ev8 [(0, true), (1, true), (2, true), (3, true)] [] 1 (sq2 (sq2 in8)) (fe8 4 nilV 4 0) (s0' z))).ok = okT [(!eqb (z 9) 0) == true, (!eqb (z 9) 0) == true, (!eqb (z 9) 0) == true, (!eqb (z 9) 0) == true] true := by kernel_rfl
  exact tc8 (φ := [(0, true), (1, true), (2, true), (3, true)]) (nils := []) (by kernel_rfl) (e.trans (by rw [h]; rfl)) ⟨by kernel_rfl, by kernel_rfl, by kernel_rfl, by kernel_rfl, trivial⟩ (by kernel_rfl) ⟨by kernel_rfl, trivial⟩
theorem nilD4_4_false_0 (z : Nat → Int) (h : (!eqb (z 9) 0) = false) : TC Try.prog 68 (sq2 (sq2 in8)) (frL' (fe8 4 nilV 4 0)) 1 (stL (s0' z)) .normal (frL' (fo8 4 nilV 4)) 1 (stL (s0' z)) := by
  have e : (oSt (ev8 [(0, false), (1, false), (2, false), (3, false)] [] 1 (sq2 (sq2 in8)) (fe8 4 nilV 4 0) (s0' z))).ok = okT [(!eqb (z 9) 0) == false, (!eqb (z 9) 0) == false, (!eqb (z 9) 0) == false, (!eqb (z 9) 0) == false] true := by kernel_rfl
  exact tc8 (φ := [(0, false), (1, false), (2, false), (3, false)]) (nils := []) (by kernel_rfl) (e.trans (by rw [h]; rfl)) ⟨by kernel_rfl, by kernel_rfl, by kernel_rfl, by kernel_rfl, trivial⟩ (by kernel_rfl) ⟨by kernel_rfl, trivial⟩
theorem nilR4_4 (z : Nat → Int) (hLe : resL z 4 = []) : TC Try.prog 68 o8 (frL' (fo8 4 nilV 4)) 1 (stL (s0' z)) .normal (frL' (fo8 4 nilV 5)) 1 (stL (s0' z)) := by
  rw [o8_eq]
  cases hz : eqb (z 9) 0 with
  | false => exact TC.seq (nilA4 z 4 ) (TC.seq (TC.block (TC.seq (nilB4 z 4 ) (TC.seq (nilI4 z 4) (nilD4_4_true_0 z (by rw [hz]; rfl)))) (.inl rfl)) (nilE4 z 4 ))
  | true => exact TC.seq (nilA4 z 4 ) (TC.seq (TC.block (TC.seq (nilB4 z 4 ) (TC.seq (nilI4 z 4) (nilD4_4_false_0 z (by rw [hz]; rfl)))) (.inl rfl)) (nilE4 z 4 ))
theorem nilD4_5_true_0 (z : Nat → Int) (h : (!eqb (z 11) 0) = true) : TC Try.prog 68 (sq2 (sq2 in8)) (frL' (fe8 4 nilV 5 0)) 1 (stL (s0' z)) .normal (frL' (fo8 4 nilV 5)) 1 (stL (s0' z)) := by
  have e : (oSt (ev8 [(0, true), (1, true), (2, true), (3, true)] [] 1 (sq2 (sq2 in8)) (fe8 4 nilV 5 0) (s0' z))).ok = okT [(!eqb (z 11) 0) == true, (!eqb (z 11) 0) == true, (!eqb (z 11) 0) == true, (!eqb (z 11) 0) == true] true := by kernel_rfl
  exact tc8 (φ := [(0, true), (1, true), (2, true), (3, true)]) (nils := []) (by kernel_rfl) (e.trans (by rw [h]; rfl)) ⟨by kernel_rfl, by kernel_rfl, by kernel_rfl, by kernel_rfl, trivial⟩ (by kernel_rfl) ⟨by kernel_rfl, trivial⟩
theorem nilD4_5_false_0 (z : Nat → Int) (h : (!eqb (z 11) 0) = false) : TC Try.prog 68 (sq2 (sq2 in8)) (frL' (fe8 4 nilV 5 0)) 1 (stL (s0' z)) .normal (frL' (fo8 4 nilV 5)) 1 (stL (s0' z)) := by
  have e : (oSt (ev8 [(0, false), (1, false), (2, false), (3, false)] [] 1 (sq2 (sq2 in8)) (fe8 4 nilV 5 0) (s0' z))).ok = okT [(!eqb (z 11) 0) == false, (!eqb (z 11) 0) == false, (!eqb (z 11) 0) == false, (!eqb (z 11) 0) == false] true := by kernel_rfl
  exact tc8 (φ := [(0, false), (1, false), (2, false), (3, false)]) (nils := []) (by kernel_rfl) (e.trans (by rw [h]; rfl)) ⟨by kernel_rfl, by kernel_rfl, by kernel_rfl, by kernel_rfl, trivial⟩ (by kernel_rfl) ⟨by kernel_rfl, trivial⟩
theorem nilR4_5 (z : Nat → Int) (hLe : resL z 4 = []) : TC Try.prog 68 o8 (frL' (fo8 4 nilV 5)) 1 (stL (s0' z)) .normal (frL' (fo8 4 nilV 6)) 1 (stL (s0' z)) := by
  rw [o8_eq]
  cases hz : eqb (z 11) 0 with
  | false => exact TC.seq (nilA5 z 4 ) (TC.seq (TC.block (TC.seq (nilB5 z 4 ) (TC.seq (nilI5 z 4) (nilD4_5_true_0 z (by rw [hz]; rfl)))) (.inl rfl)) (nilE5 z 4 ))
  | true => exact TC.seq (nilA5 z 4 ) (TC.seq (TC.block (TC.seq (nilB5 z 4 ) (TC.seq (nilI5 z 4) (nilD4_5_false_0 z (by rw [hz]; rfl)))) (.inl rfl)) (nilE5 z 4 ))
theorem nilD4_6_true_0 (z : Nat → Int) (h : (!eqb (z 13) 0) = true) : TC Try.prog 68 (sq2 (sq2 in8)) (frL' (fe8 4 nilV 6 0)) 1 (stL (s0' z)) .normal (frL' (fo8 4 nilV 6)) 1 (stL (s0' z)) := by
  have e : (oSt (ev8 [(0, true), (1, true), (2, true), (3, true)] [] 1 (sq2 (sq2 in8)) (fe8 4 nilV 6 0) (s0' z))).ok = okT [(!eqb (z 13) 0) == true, (!eqb (z 13) 0) == true, (!eqb (z 13) 0) == true, (!eqb (z 13) 0) == true] true := by kernel_rfl
  exact tc8 (φ := [(0, true), (1, true), (2, true), (3, true)]) (nils := []) (by kernel_rfl) (e.trans (by rw [h]; rfl)) ⟨by kernel_rfl, by kernel_rfl, by kernel_rfl, by kernel_rfl, trivial⟩ (by kernel_rfl) ⟨by kernel_rfl, trivial⟩
theorem nilD4_6_false_0 (z : Nat → Int) (h : (!eqb (z 13) 0) = false) : TC Try.prog 68 (sq2 (sq2 in8)) (frL' (fe8 4 nilV 6 0)) 1 (stL (s0' z)) .normal (frL' (fo8 4 nilV 6)) 1 (stL (s0' z)) := by
  have e : (oSt (ev8 [(0, false), (1, false), (2, false), (3, false)] [] 1 (sq2 (sq2 in8)) (fe8 4 nilV 6 0) (s0' z))).ok = okT [(!eqb (z 13) 0) == false, (!eqb (z 13) 0) == false, (!eqb (z 13) 0) == false, (!eqb (z 13) 0) == false] true := by kernel_rfl
  exact tc8 (φ := [(0, false), (1, false), (2, false), (3, false)]) (nils := []) (by kernel_rfl) (e.trans (by rw [h]; rfl)) ⟨by kernel_rfl, by kernel_rfl, by kernel_rfl, by kernel_rfl, trivial⟩ (by kernel_rfl) ⟨by kernel_rfl, trivial⟩
theorem nilR4_6 (z : Nat → Int) (hLe : resL z 4 = []) : TC Try.prog 68 o8 (frL' (fo8 4 nilV 6)) 1 (stL (s0' z)) .normal (frL' (fo8 4 nilV 7)) 1 (stL (s0' z)) := by
  rw [o8_eq]
  cases hz : eqb (z 13) 0 with
  | false => exact TC.seq (nilA6 z 4 ) (TC.seq (TC.block (TC.seq (nilB6 z 4 ) (TC.seq (nilI6 z 4) (nilD4_6_true_0 z (by rw [hz]; rfl)))) (.inl rfl)) (nilE6 z 4 ))
  | true => exact TC.seq (nilA6 z 4 ) (TC.seq (TC.block (TC.seq (nilB6 z 4 ) (TC.seq (nilI6 z 4) (nilD4_6_false_0 z (by rw [hz]; rfl)))) (.inl rfl)) (nilE6 z 4 ))
theorem nilD4_7_true_0 (z : Nat → Int) (h : (!eqb (z 15) 0) = true) : TC Try.prog 68 (sq2 (sq2 in8)) (frL' (fe8 4 nilV 7 0)) 1 (stL (s0' z)) .normal (frL' (fo8 4 nilV 7)) 1 (stL (s0' z)) := by
  have e : (oSt (ev8 [(0, true), (1, true), (2, true), (3, true)] [] 1 (sq2 (sq2 in8)) (fe8 4 nilV 7 0) (s0' z))).ok = okT [(!eqb (z 15) 0) == true, (!eqb (z 15) 0) == true, (!eqb (z 15) 0) == true, (!eqb (z 15) 0) == true] true := by kernel_rfl
  exact tc8 (φ := [(0, true), (1, true), (2, true), (3, true)]) (nils := []) (by kernel_rfl) (e.trans (by rw [h]; rfl)) ⟨by kernel_rfl, by kernel_rfl, by kernel_rfl, by kernel_rfl, trivial⟩ (by kernel_rfl) ⟨by kernel_rfl, trivial⟩
theorem nilD4_7_false_0 (z : Nat → Int) (h : (!eqb (z 15) 0) = false) : TC Try.prog 68 (sq2 (sq2 in8)) (frL' (fe8 4 nilV 7 0)) 1 (stL (s0' z)) .normal (frL' (fo8 4 nilV 7)) 1 (stL (s0' z)) := by
  have e : (oSt (ev8 [(0, false), (1, false), (2, false), (3, false)] [] 1 (sq2 (sq2 in8)) (fe8 4 nilV 7 0) (s0' z))).ok = okT [(!eqb (z 15) 0) == false, (!eqb (z 15) 0) == false, (!eqb (z 15) 0) == false, (!eqb (z 15) 0) == false] true := by kernel_rfl
  exact tc8 (φ := [(0, false), (1, false), (2, false), (3, false)]) (nils := []) (by kernel_rfl) (e.trans (by rw [h]; rfl)) ⟨by kernel_rfl, by kernel_rfl, by kernel_rfl, by kernel_rfl, trivial⟩ (by kernel_rfl) ⟨by kernel_rfl, trivial⟩
theorem nilR4_7 (z : Nat → Int) (hLe : resL z 4 = []) : TC Try.prog 68 o8 (frL' (fo8 4 nilV 7)) 1 (stL (s0' z)) .normal (frL' (fo8 4 nilV 8)) 1 (stL (s0' z)) := by
  rw [o8_eq]
  cases hz : eqb (z 15) 0 with
  | false => exact TC.seq (nilA7 z 4 ) (TC.seq (TC.block (TC.seq (nilB7 z 4 ) (TC.seq (nilI7 z 4) (nilD4_7_true_0 z (by rw [hz]; rfl)))) (.inl rfl)) (nilE7 z 4 ))
  | true => exact TC.seq (nilA7 z 4 ) (TC.seq (TC.block (TC.seq (nilB7 z 4 ) (TC.seq (nilI7 z 4) (nilD4_7_false_0 z (by rw [hz]; rfl)))) (.inl rfl)) (nilE7 z 4 ))
theorem nilW4 (z : Nat → Int) (hLe : resL z 4 = []) : TC Try.prog 68 (.seq (.seq (sq1 (sq1 (sq2 out8))) (.block 0 (.loop o8))) (sq2 (sq2 out8))) (frL' [(1, .sc (.int .i64 4)), (2, .ptr 0 0), (5, nilV)]) 1 (stL (s0' z)) .ret (frL' [(4, .sc (.bool true))]) 1 (stL (s0' z)) :=
  TC.seq (TC.seq (nilS z 4 ) (TC.block (TC.loop (k := 9) (TR.more (nilR4_0 z hLe) (TR.more (nilR4_1 z hLe) (TR.more (nilR4_2 z hLe) (TR.more (nilR4_3 z hLe) (TR.more (nilR4_4 z hLe) (TR.more (nilR4_5 z hLe) (TR.more (nilR4_6 z hLe) (TR.more (nilR4_7 z hLe) (TR.out (nilX z 4 ) (by simp))))))))))) (.inr rfl))) (nilZ z )
theorem nilD5_0_true_0 (z : Nat → Int) (h : (!eqb (z 1) 0) = true) : TC Try.prog 68 (sq2 (sq2 in8)) (frL' (fe8 5 nilV 0 0)) 1 (stL (s0' z)) .normal (frL' (fo8 5 nilV 0)) 1 (stL (s0' z)) := by
  have e : (oSt (ev8 [(0, true), (1, true), (2, true), (3, true)] [] 1 (sq2 (sq2 in8)) (fe8 5 nilV 0 0) (s0' z))).ok = okT [(!eqb (z 1) 0) == true, (!eqb (z 1) 0) == true, (!eqb (z 1) 0) == true, (!eqb (z 1) 0) == true] true := by kernel_rfl
  exact tc8 (φ := [(0, true), (1, true), (2, true), (3, true)]) (nils := []) (by kernel_rfl) (e.trans (by rw [h]; rfl)) ⟨by kernel_rfl, by kernel_rfl, by kernel_rfl, by kernel_rfl, trivial⟩ (by kernel_rfl) ⟨by kernel_rfl, trivial⟩
theorem nilD5_0_false_0 (z : Nat → Int) (h : (!eqb (z 1) 0) = false) : TC Try.prog 68 (sq2 (sq2 in8)) (frL' (fe8 5 nilV 0 0)) 1 (stL (s0' z)) .normal (frL' (fo8 5 nilV 0)) 1 (stL (s0' z)) := by
  have e : (oSt (ev8 [(0, false), (1, false), (2, false), (3, false)] [] 1 (sq2 (sq2 in8)) (fe8 5 nilV 0 0) (s0' z))).ok = okT [(!eqb (z 1) 0) == false, (!eqb (z 1) 0) == false, (!eqb (z 1) 0) == false, (!eqb (z 1) 0) == false] true := by kernel_rfl
  exact tc8 (φ := [(0, false), (1, false), (2, false), (3, false)]) (nils := []) (by kernel_rfl) (e.trans (by rw [h]; rfl)) ⟨by kernel_rfl, by kernel_rfl, by kernel_rfl, by kernel_rfl, trivial⟩ (by kernel_rfl) ⟨by kernel_rfl, trivial⟩
theorem nilR5_0 (z : Nat → Int) (hLe : resL z 5 = []) : TC Try.prog 68 o8 (frL' (fo8 5 nilV 0)) 1 (stL (s0' z)) .normal (frL' (fo8 5 nilV 1)) 1 (stL (s0' z)) := by
  rw [o8_eq]
  cases hz : eqb (z 1) 0 with
  | false => exact TC.seq (nilA0 z 5 ) (TC.seq (TC.block (TC.seq (nilB0 z 5 ) (TC.seq (nilI0 z 5) (nilD5_0_true_0 z (by rw [hz]; rfl)))) (.inl rfl)) (nilE0 z 5 ))
  | true => exact TC.seq (nilA0 z 5 ) (TC.seq (TC.block (TC.seq (nilB0 z 5 ) (TC.seq (nilI0 z 5) (nilD5_0_false_0 z (by rw [hz]; rfl)))) (.inl rfl)) (nilE0 z 5 ))
theorem nilD5_1_true_0 (z : Nat → Int) (h : (!eqb (z 3) 0) = true) : TC Try.prog 68 (sq2 (sq2 in8)) (frL' (fe8 5 nilV 1 0)) 1 (stL (s0' z)) .normal (frL' (fo8 5 nilV 1)) 1 (stL (s0' z)) := by
  have e : (oSt (ev8 [(0, true), (1, true), (2, true), (3, true)] [] 1 (sq2 (sq2 in8)) (fe8 5 nilV 1 0) (s0' z))).ok = okT [(!eqb (z 3) 0) == true, (!eqb (z 3) 0) == true, (!eqb (z 3) 0) == true, (!eqb (z 3) 0) == true] true := by kernel_rfl
  exact tc8 (φ := [(0, true), (1, true), (2, true), (3, true)]) (nils := []) (by kernel_rfl) (e.trans (by rw [h]; rfl)) ⟨by kernel_rfl, by kernel_rfl, by kernel_rfl, by kernel_rfl, trivial⟩ (by kernel_rfl) ⟨by kernel_rfl, trivial⟩
theorem nilD5_1_false_0 (z : Nat → Int) (h : (!eqb (z 3) 0) = false) : TC Try.prog 68 (sq2 (sq2 in8)) (frL' (fe8 5 nilV 1 0)) 1 (stL (s0' z)) .normal (frL' (fo8 5 nilV 1)) 1 (stL (s0' z)) := by
  have e : (oSt (ev8 [(0, false), (1, false), (2, false), (3, false)] [] 1 (sq2 (sq2 in8)) (fe8 5 nilV 1 0) (s0' z))).ok = okT [(!eqb (z 3) 0) == false, (!eqb (z 3) 0) == false, (!eqb (z 3) 0) == false, (!eqb (z 3) 0) == false] true := by kernel_rfl
  exact tc8 (φ := [(0, false), (1, false), (2, false), (3, false)]) (nils := []) (by kernel_rfl) (e.trans (by rw [h]; rfl)) ⟨by kernel_rfl, by kernel_rfl, by kernel_rfl, by kernel_rfl, trivial⟩ (by kernel_rfl) ⟨by kernel_rfl, trivial⟩
theorem nilR5_1 (z : Nat → Int) (hLe : resL z 5 = []) : TC Try.prog 68 o8 (frL' (fo8 5 nilV 1)) 1 (stL (s0' z)) .normal (frL' (fo8 5 nilV 2)) 1 (stL (s0' z)) := by
  rw [o8_eq]
  cases hz : eqb (z 3) 0 with
  | false => exact TC.seq (nilA1 z 5 ) (TC.seq (TC.block (TC.seq (nilB1 z 5 ) (TC.seq (nilI1 z 5) (nilD5_1_true_0 z (by rw [hz]; rfl)))) (.inl rfl)) (nilE1 z 5 ))
  | true => exact TC.seq (nilA1 z 5 ) (TC.seq (TC.block (TC.seq (nilB1 z 5 ) (TC.seq (nilI1 z 5) (nilD5_1_false_0 z (by rw [hz]; rfl)))) (.inl rfl)) (nilE1 z 5 ))
theorem nilD5_2_false_0 (z : Nat → Int) (h : (!eqb (z 5) 0) = false) : TC Try.prog 68 (sq2 (sq2 in8)) (frL' (fe8 5 nilV 2 0)) 1 (stL (s0' z)) .normal (frL' (fo8 5 nilV 2)) 1 (stL (s0' z)) := by
  have e : (oSt (ev8 [(0, false), (1, false), (2, false), (3, false)] [] 1 (sq2 (sq2 in8)) (fe8 5 nilV 2 0) (s0' z))).ok = okT [(!eqb (z 5) 0) == false, (!eqb (z 5) 0) == false, (!eqb (z 5) 0) == false, (!eqb (z 5) 0) == false] true := by kernel_rfl
  exact tc8 (φ := [(0, false), (1, false), (2, false), (3, false)]) (nils := []) (by kernel_rfl) (e.trans (by rw [h]; rfl)) ⟨by kernel_rfl, by kernel_rfl, by kernel_rfl, by kernel_rfl, trivial⟩ (by kernel_rfl) ⟨by kernel_rfl, trivial⟩
theorem nilR5_2 (z : Nat → Int) (hLe : resL z 5 = []) : TC Try.prog 68 o8 (frL' (fo8 5 nilV 2)) 1 (stL (s0' z)) .normal (frL' (fo8 5 nilV 3)) 1 (stL (s0' z)) := by
  rw [o8_eq]
  have hr := c5_2 z
  rw [hLe] at hr
  cases hz : eqb (z 5) 0 with
  | false => exact absurd (hr.2 hz) (by simp [ucnt])
  | true => exact TC.seq (nilA2 z 5 ) (TC.seq (TC.block (TC.seq (nilB2 z 5 ) (TC.seq (nilI2 z 5) (nilD5_2_false_0 z (by rw [hz]; rfl)))) (.inl rfl)) (nilE2 z 5 ))
theorem nilD5_3_false_0 (z : Nat → Int) (h : (!eqb (z 7) 0) = false) : TC Try.prog 68 (sq2 (sq2 in8)) (frL' (fe8 5 nilV 3 0)) 1 (stL (s0' z)) .normal (frL' (fo8 5 nilV 3)) 1 (stL (s0' z)) := by
  have e : (oSt (ev8 [(0, false), (1, false), (2, false), (3, false)] [] 1 (sq2 (sq2 in8)) (fe8 5 nilV 3 0) (s0' z))).ok = okT [(!eqb (z 7) 0) == false, (!eqb (z 7) 0) == false, (!eqb (z 7) 0) == false, (!eqb (z 7) 0) == false] true := by kernel_rfl
  exact tc8 (φ := [(0, false), (1, false), (2, false), (3, false)]) (nils := []) (by kernel_rfl) (e.trans (by rw [h]; rfl)) ⟨by kernel_rfl, by kernel_rfl, by kernel_rfl, by kernel_rfl, trivial⟩ (by kernel_rfl) ⟨by kernel_rfl, trivial⟩
theorem nilR5_3 (z : Nat → Int) (hLe : resL z 5 = []) : TC Try.prog 68 o8 (frL' (fo8 5 nilV 3)) 1 (stL (s0' z)) .normal (frL' (fo8 5 nilV 4)) 1 (stL (s0' z)) := by
  rw [o8_eq]
  have hr := c5_3 z
  rw [hLe] at hr
  cases hz : eqb (z 7) 0 with
  | false => exact absurd (hr.2 hz) (by simp [ucnt])
  | true => exact TC.seq (nilA3 z 5 ) (TC.seq (TC.block (TC.seq (nilB3 z 5 ) (TC.seq (nilI3 z 5) (nilD5_3_false_0 z (by rw [hz]; rfl)))) (.inl rfl)) (nilE3 z 5 ))
theorem nilD5_4_true_0 (z : Nat → Int) (h : (!eqb (z 9) 0) = true) : TC Try.prog 68 (sq2 (sq2 in8)) (frL' (fe8 5 nilV 4 0)) 1 (stL (s0' z)) .normal (frL' (fo8 5 nilV 4)) 1 (stL (s0' z)) := by
  have e : (oSt (ev8 [(0, true), (1, true), (2, true), (3, true)] [] 1 (sq2 (sq2 in8)) (fe8 5 nilV 4 0) (s0' z))).ok = okT [(!eqb (z 9) 0) == true, (!eqb (z 9) 0) == true, (!eqb (z 9) 0) == true, (!eqb (z 9) 0) == true] true := by kernel_rfl
  exact tc8 (φ := [(0, true), (1, true), (2, true), (3, true)]) (nils := []) (by kernel_rfl) (e.trans (by rw [h]; rfl)) ⟨by kernel_rfl, by kernel_rfl, by kernel_rfl, by kernel_rfl, trivial⟩ (by kernel_rfl) ⟨by kernel_rfl, trivial⟩
theorem nilD5_4_false_0 (z : Nat → Int) (h : (!eqb (z 9) 0) = false) : TC Try.prog 68 (sq2 (sq2 in8)) (frL' (fe8 5 nilV 4 0)) 1 (stL (s0' z)) .normal (frL' (fo8 5 nilV 4)) 1 (stL (s0' z)) := by
  have e : (oSt (ev8 [(0, false), (1, false), (2, false), (3, false)] [] 1 (sq2 (sq2 in8)) (fe8 5 nilV 4 0) (s0' z))).ok = okT [(!eqb (z 9) 0) == false, (!eqb (z 9) 0) == false, (!eqb (z 9) 0) == false, (!eqb (z 9) 0) == false] true := by kernel_rfl
  exact tc8 (φ := [(0, false), (1, false), (2, false), (3, false)]) (nils := []) (by kernel_rfl) (e.trans (by rw [h]; rfl)) ⟨by kernel_rfl, by kernel_rfl, by kernel_rfl, by kernel_rfl, trivial⟩ (by kernel_rfl) ⟨by kernel_rfl, trivial⟩
theorem nilR5_4 (z : Nat → Int) (hLe : resL z 5 = []) : TC Try.prog 68 o8 (frL' (fo8 5 nilV 4)) 1 (stL (s0' z)) .normal (frL' (fo8 5 nilV 5)) 1 (stL (s0' z)) := by
  rw [o8_eq]
  cases hz : eqb (z 9) 0 with
  | false => exact TC.seq (nilA4 z 5 ) (TC.seq (TC.block (TC.seq (nilB4 z 5 ) (TC.seq (nilI4 z 5) (nilD5_4_true_0 z (by rw [hz]; rfl)))) (.inl rfl)) (nilE4 z 5 ))
  | true => exact TC.seq (nilA4 z 5 ) (TC.seq (TC.block (TC.seq (nilB4 z 5 ) (TC.seq (nilI4 z 5) (nilD5_4_false_0 z (by rw [hz]; rfl)))) (.inl rfl)) (nilE4 z 5 ))
theorem nilD5_5_true_0 (z : Nat → Int) (h : (!eqb (z 11) 0) = true) : TC Try.prog 68 (sq2 (sq2 in8)) (frL' (fe8 5 nilV 5 0)) 1 (stL (s0' z)) .normal (frL' (fo8 5 nilV 5)) 1 (stL (s0' z)) := by
  have e : (oSt (ev8 [(0, true), (1, true), (2, true), (3, true)] [] 1 (sq2 (sq2 in8)) (fe8 5 nilV 5 0) (s0' z))).ok = okT [(!eqb (z 11) 0) == true, (!eqb (z 11) 0) == true, (!eqb (z 11) 0) == true, (!eqb (z 11) 0) == true] true := by kernel_rfl
  exact tc8 (φ := [(0, true), (1, true), (2, true), (3, true)]) (nils := []) (by kernel_rfl) (e.trans (by rw [h]; rfl)) ⟨by kernel_rfl, by kernel_rfl, by kernel_rfl, by kernel_rfl, trivial⟩ (by kernel_rfl) ⟨by kernel_rfl, trivial⟩
theorem nilD5_5_false_0 (z : Nat → Int) (h : (!eqb (z 11) 0) = false) : TC Try.prog 68 (sq2 (sq2 in8)) (frL' (fe8 5 nilV 5 0)) 1 (stL (s0' z)) .normal (frL' (fo8 5 nilV 5)) 1 (stL (s0' z)) := by
  have e : (oSt (ev8 [(0, false), (1, false), (2, false), (3, false)] [] 1 (sq2 (sq2 in8)) (fe8 5 nilV 5 0) (s0' z))).ok = okT [(!eqb (z 11) 0) == false, (!eqb (z 11) 0) == false, (!eqb (z 11) 0) == false, (!eqb (z 11) 0) == false] true := by kernel_rfl
  exact tc8 (φ := [(0, false), (1, false), (2, false), (3, false)]) (nils := []) (by kernel_rfl) (e.trans (by rw [h]; rfl)) ⟨by kernel_rfl, by kernel_rfl, by kernel_rfl, by kernel_rfl, trivial⟩ (by kernel_rfl) ⟨by kernel_rfl, trivial⟩
theorem nilR5_5 (z : Nat → Int) (hLe : resL z 5 = []) : TC Try.prog 68 o8 (frL' (fo8 5 nilV 5)) 1 (stL (s0' z)) .normal (frL' (fo8 5 nilV 6)) 1 (stL (s0' z)) := by
  rw [o8_eq]
  cases hz : eqb (z 11) 0 with
  | false => exact TC.seq (nilA5 z 5 ) (TC.seq (TC.block (TC.seq (nilB5 z 5 ) (TC.seq (nilI5 z 5) (nilD5_5_true_0 z (by rw [hz]; rfl)))) (.inl rfl)) (nilE5 z 5 ))
  | true => exact TC.seq (nilA5 z 5 ) (TC.seq (TC.block (TC.seq (nilB5 z 5 ) (TC.seq (nilI5 z 5) (nilD5_5_false_0 z (by rw [hz]; rfl)))) (.inl rfl)) (nilE5 z 5 ))
theorem nilD5_6_true_0 (z : Nat → Int) (h : (!eqb (z 13) 0) = true) : TC Try.prog 68 (sq2 (sq2 in8)) (frL' (fe8 5 nilV 6 0)) 1 (stL (s0' z)) .normal (frL' (fo8 5 nilV 6)) 1 (stL (s0' z)) := by
  have e : (oSt (ev8 [(0, true), (1, true), (2, true), (3, true)] [] 1 (sq2 (sq2 in8)) (fe8 5 nilV 6 0) (s0' z))).ok = okT [(!eqb (z 13) 0) == true, (!eqb (z 13) 0) == true, (!eqb (z 13) 0) == true, (!eqb (z 13) 0) == true] true := by kernel_rfl
  exact tc8 (φ := [(0, true), (1, true), (2, true), (3, true)]) (nils := []) (by kernel_rfl) (e.trans (by rw [h]; rfl)) ⟨by kernel_rfl, by kernel_rfl, by kernel_rfl, by kernel_rfl, trivial⟩ (by kernel_rfl) ⟨by kernel_rfl, trivial⟩
theorem nilD5_6_false_0 (z : Nat → Int) (h : (!eqb (z 13) 0) = false) : TC Try.prog 68 (sq2 (sq2 in8)) (frL' (fe8 5 nilV 6 0)) 1 (stL (s0' z)) .normal (frL' (fo8 5 nilV 6)) 1 (stL (s0' z)) := by
  have e : (oSt (ev8 [(0, false), (1, false), (2, false), (3, false)] [] 1 (sq2 (sq2 in8)) (fe8 5 nilV 6 0) (s0' z))).ok = okT [(!eqb (z 13) 0) == false, (!eqb (z 13) 0) == false, (!eqb (z 13) 0) == false, (!eqb (z 13) 0) == false] true := by kernel_rfl
  exact tc8 (φ := [(0, false), (1, false), (2, false), (3, false)]) (nils := []) (by kernel_rfl) (e.trans (by rw [h]; rfl)) ⟨by kernel_rfl, by kernel_rfl, by kernel_rfl, by kernel_rfl, trivial⟩ (by kernel_rfl) ⟨by kernel_rfl, trivial⟩
theorem nilR5_6 (z : Nat → Int) (hLe : resL z 5 = []) : TC Try.prog 68 o8 (frL' (fo8 5 nilV 6)) 1 (stL (s0' z)) .normal (frL' (fo8 5 nilV 7)) 1 (stL (s0' z)) := by
  rw [o8_eq]
  cases hz : eqb (z 13) 0 with
  | false => exact TC.seq (nilA6 z 5 ) (TC.seq (TC.block (TC.seq (nilB6 z 5 ) (TC.seq (nilI6 z 5) (nilD5_6_true_0 z (by rw [hz]; rfl)))) (.inl rfl)) (nilE6 z 5 ))
  | true => exact TC.seq (nilA6 z 5 ) (TC.seq (TC.block (TC.seq (nilB6 z 5 ) (TC.seq (nilI6 z 5) (nilD5_6_false_0 z (by rw [hz]; rfl)))) (.inl rfl)) (nilE6 z 5 ))
theorem nilD5_7_true_0 (z : Nat → Int) (h : (!eqb (z 15) 0) = true) : TC Try.prog 68 (sq2 (sq2 in8)) (frL' (fe8 5 nilV 7 0)) 1 (stL (s0' z)) .normal (frL' (fo8 5 nilV 7)) 1 (stL (s0' z)) := by
  have e : (oSt (ev8 [(0, true), (1, true), (2, true), (3, true)] [] 1 (sq2 (sq2 in8)) (fe8 5 nilV 7 0) (s0' z))).ok = okT [(!eqb (z 15) 0) == true, (!eqb (z 15) 0) == true, (!eqb (z 15) 0) == true, (!eqb (z 15) 0) == true] true := by kernel_rfl
  exact tc8 (φ := [(0, true), (1, true), (2, true), (3, true)]) (nils := []) (by kernel_rfl) (e.trans (by rw [h]; rfl)) ⟨by kernel_rfl, by kernel_rfl, by kernel_rfl, by kernel_rfl, trivial⟩ (by kernel_rfl) ⟨by kernel_rfl, trivial⟩
theorem nilD5_7_false_0 (z : Nat → Int) (h : (!eqb (z 15) 0) = false) : TC Try.prog 68 (sq2 (sq2 in8)) (frL' (fe8 5 nilV 7 0)) 1 (stL (s0' z)) .normal (frL' (fo8 5 nilV 7)) 1 (stL (s0' z)) := by
  have e : (oSt (ev8 [(0, false), (1, false), (2, false), (3, false)] [] 1 (sq2 (sq2 in8)) (fe8 5 nilV 7 0) (s0' z))).ok = okT [(!eqb (z 15) 0) == false, (!eqb (z 15) 0) == false, (!eqb (z 15) 0) == false, (!eqb (z 15) 0) == false] true := by kernel_rfl
  exact tc8 (φ := [(0, false), (1, false), (2, false), (3, false)]) (nils := []) (by kernel_rfl) (e.trans (by rw [h]; rfl)) ⟨by kernel_rfl, by kernel_rfl, by kernel_rfl, by kernel_rfl, trivial⟩ (by kernel_rfl) ⟨by kernel_rfl, trivial⟩
theorem nilR5_7 (z : Nat → Int) (hLe : resL z 5 = []) : TC Try.prog 68 o8 (frL' (fo8 5 nilV 7)) 1 (stL (s0' z)) .normal (frL' (fo8 5 nilV 8)) 1 (stL (s0' z)) := by
  rw [o8_eq]
  cases hz : eqb (z 15) 0 with
  | false => exact TC.seq (nilA7 z 5 ) (TC.seq (TC.block (TC.seq (nilB7 z 5 ) (TC.seq (nilI7 z 5) (nilD5_7_true_0 z (by rw [hz]; rfl)))) (.inl rfl)) (nilE7 z 5 ))
  | true => exact TC.seq (nilA7 z 5 ) (TC.seq (TC.block (TC.seq (nilB7 z 5 ) (TC.seq (nilI7 z 5) (nilD5_7_false_0 z (by rw [hz]; rfl)))) (.inl rfl)) (nilE7 z 5 ))
theorem nilW5 (z : Nat → Int) (hLe : resL z 5 = []) : TC Try.prog 68 (.seq (.seq (sq1 (sq1 (sq2 out8))) (.block 0 (.loop o8))) (sq2 (sq2 out8))) (frL' [(1, .sc (.int .i64 5)), (2, .ptr 0 0), (5, nilV)]) 1 (stL (s0' z)) .ret (frL' [(4, .sc (.bool true))]) 1 (stL (s0' z)) :=
  TC.seq (TC.seq (nilS z 5 ) (TC.block (TC.loop (k := 9) (TR.more (nilR5_0 z hLe) (TR.more (nilR5_1 z hLe) (TR.more (nilR5_2 z hLe) (TR.more (nilR5_3 z hLe) (TR.more (nilR5_4 z hLe) (TR.more (nilR5_5 z hLe) (TR.more (nilR5_6 z hLe) (TR.more (nilR5_7 z hLe) (TR.out (nilX z 5 ) (by simp))))))))))) (.inr rfl))) (nilZ z )
theorem nilD6_0_true_0 (z : Nat → Int) (h : (!eqb (z 1) 0) = true) : TC Try.prog 68 (sq2 (sq2 in8)) (frL' (fe8 6 nilV 0 0)) 1 (stL (s0' z)) .normal (frL' (fo8 6 nilV 0)) 1 (stL (s0' z)) := by
  have e : (oSt (ev8 [(0, true), (1, true), (2, true), (3, true)] [] 1 (sq2 (sq2 in8)) (fe8 6 nilV 0 0) (s0' z))).ok = okT [(!eqb (z 1) 0) == true, (!eqb (z 1) 0) == true, (!eqb (z 1) 0) == true, (!eqb (z 1) 0) == true] true := by kernel_rfl
  exact tc8 (φ := [(0, true), (1, true), (2, true), (3, true)]) (nils := []) (by kernel_rfl) (e.trans (by rw [h]; rfl)) ⟨by kernel_rfl, by kernel_rfl, by kernel_rfl, by kernel_rfl, trivial⟩ (by kernel_rfl) ⟨by kernel_rfl, trivial⟩
theorem nilD6_0_false_0 (z : Nat → Int) (h : (!eqb (z 1) 0) = false) : TC Try.prog 68 (sq2 (sq2 in8)) (frL' (fe8 6 nilV 0 0)) 1 (stL (s0' z)) .normal (frL' (fo8 6 nilV 0)) 1 (stL (s0' z)) := by
  have e : (oSt (ev8 [(0, false), (1, false), (2, false), (3, false)] [] 1 (sq2 (sq2 in8)) (fe8 6 nilV 0 0) (s0' z))).ok = okT [(!eqb (z 1) 0) == false, (!eqb (z 1) 0) == false, (!eqb (z 1) 0) == false, (!eqb (z 1) 0) == false] true := by kernel_rfl
  exact tc8 (φ := [(0, false), (1, false), (2, false), (3, false)]) (nils := []) (by kernel_rfl) (e.trans (by rw [h]; rfl)) ⟨by kernel_rfl, by kernel_rfl, by kernel_rfl, by kernel_rfl, trivial⟩ (by kernel_rfl) ⟨by kernel_rfl, trivial⟩
theorem nilR6_0 (z : Nat → Int) (hLe : resL z 6 = []) : TC Try.prog 68 o8 (frL' (fo8 6 nilV 0)) 1 (stL (s0' z)) .normal (frL' (fo8 6 nilV 1)) 1 (stL (s0' z)) := by
  rw [o8_eq]
  cases hz : eqb (z 1) 0 with
  | false => exact TC.seq (nilA0 z 6 ) (TC.seq (TC.block (TC.seq (nilB0 z 6 ) (TC.seq (nilI0 z 6) (nilD6_0_true_0 z (by rw [hz]; rfl)))) (.inl rfl)) (nilE0 z 6 ))
  | true => exact TC.seq (nilA0 z 6 ) (TC.seq (TC.block (TC.seq (nilB0 z 6 ) (TC.seq (nilI0 z 6) (nilD6_0_false_0 z (by rw [hz]; rfl)))) (.inl rfl)) (nilE0 z 6 ))
theorem nilD6_1_true_0 (z : Nat → Int) (h : (!eqb (z 3) 0) = true) : TC Try.prog 68 (sq2 (sq2 in8)) (frL' (fe8 6 nilV 1 0)) 1 (stL (s0' z)) .normal (frL' (fo8 6 nilV 1)) 1 (stL (s0' z)) := by
  have e : (oSt (ev8 [(0, true), (1, true), (2, true), (3, true)] [] 1 (sq2 (sq2 in8)) (fe8 6 nilV 1 0) (s0' z))).ok = okT [(!eqb (z 3) 0) == true, (!eqb (z 3) 0) == true, (!eqb (z 3) 0) == true, (!eqb (z 3) 0) == true] true := by kernel_rfl
  exact tc8 (φ := [(0, true), (1, true), (2, true), (3, true)]) (nils := []) (by kernel_rfl) (e.trans (by rw [h]; rfl)) ⟨by kernel_rfl, by kernel_rfl, by kernel_rfl, by kernel_rfl, trivial⟩ (by kernel_rfl) ⟨by kernel_rfl, trivial⟩
theorem nilD6_1_false_0 (z : Nat → Int) (h : (!eqb (z 3) 0) = false) : TC Try.prog 68 (sq2 (sq2 in8)) (frL' (fe8 6 nilV 1 0)) 1 (stL (s0' z)) .normal (frL' (fo8 6 nilV 1)) 1 (stL (s0' z)) := by
  have e : (oSt (ev8 [(0, false), (1, false), (2, false), (3, false)] [] 1 (sq2 (sq2 in8)) (fe8 6 nilV 1 0) (s0' z))).ok = okT [(!eqb (z 3) 0) == false, (!eqb (z 3) 0) == false, (!eqb (z 3) 0) == false, (!eqb (z 3) 0) == false] true := by kernel_rfl
  exact tc8 (φ := [(0, false), (1, false), (2, false), (3, false)]) (nils := []) (by kernel_rfl) (e.trans (by rw [h]; rfl)) ⟨by kernel_rfl, by kernel_rfl, by kernel_rfl, by kernel_rfl, trivial⟩ (by kernel_rfl) ⟨by kernel_rfl, trivial⟩
theorem nilR6_1 (z : Nat → Int) (hLe : resL z 6 = []) : TC Try.prog 68 o8 (frL' (fo8 6 nilV 1)) 1 (stL (s0' z)) .normal (frL' (fo8 6 nilV 2)) 1 (stL (s0' z)) := by
  rw [o8_eq]
  cases hz : eqb (z 3) 0 with
  | false => exact TC.seq (nilA1 z 6 ) (TC.seq (TC.block (TC.seq (nilB1 z 6 ) (TC.seq (nilI1 z 6) (nilD6_1_true_0 z (by rw [hz]; rfl)))) (.inl rfl)) (nilE1 z 6 ))
  | true => exact TC.seq (nilA1 z 6 ) (TC.seq (TC.block (TC.seq (nilB1 z 6 ) (TC.seq (nilI1 z 6) (nilD6_1_false_0 z (by rw [hz]; rfl)))) (.inl rfl)) (nilE1 z 6 ))
theorem nilD6_2_true_0 (z : Nat → Int) (h : (!eqb (z 5) 0) = true) : TC Try.prog 68 (sq2 (sq2 in8)) (frL' (fe8 6 nilV 2 0)) 1 (stL (s0' z)) .normal (frL' (fo8 6 nilV 2)) 1 (stL (s0' z)) := by
  have e : (oSt (ev8 [(0, true), (1, true), (2, true), (3, true)] [] 1 (sq2 (sq2 in8)) (fe8 6 nilV 2 0) (s0' z))).ok = okT [(!eqb (z 5) 0) == true, (!eqb (z 5) 0) == true, (!eqb (z 5) 0) == true, (!eqb (z 5) 0) == true] true := by kernel_rfl
  exact tc8 (φ := [(0, true), (1, true), (2, true), (3, true)]) (nils := []) (by kernel_rfl) (e.trans (by rw [h]; rfl)) ⟨by kernel_rfl, by kernel_rfl, by kernel_rfl, by kernel_rfl, trivial⟩ (by kernel_rfl) ⟨by kernel_rfl, trivial⟩
theorem nilD6_2_false_0 (z : Nat → Int) (h : (!eqb (z 5) 0) = false) : TC Try.prog 68 (sq2 (sq2 in8)) (frL' (fe8 6 nilV 2 0)) 1 (stL (s0' z)) .normal (frL' (fo8 6 nilV 2)) 1 (stL (s0' z)) := by
  have e : (oSt (ev8 [(0, false), (1, false), (2, false), (3, false)] [] 1 (sq2 (sq2 in8)) (fe8 6 nilV 2 0) (s0' z))).ok = okT [(!eqb (z 5) 0) == false, (!eqb (z 5) 0) == false, (!eqb (z 5) 0) == false, (!eqb (z 5) 0) == false] true := by kernel_rfl
  exact tc8 (φ := [(0, false), (1, false), (2, false), (3, false)]) (nils := []) (by kernel_rfl) (e.trans (by rw [h]; rfl)) ⟨by kernel_rfl, by kernel_rfl, by kernel_rfl, by kernel_rfl, trivial⟩ (by kernel_rfl) ⟨by kernel_rfl, trivial⟩
theorem nilR6_2 (z : Nat → Int) (hLe : resL z 6 = []) : TC Try.prog 68 o8 (frL' (fo8 6 nilV 2)) 1 (stL (s0' z)) .normal (frL' (fo8 6 nilV 3)) 1 (stL (s0' z)) := by
  rw [o8_eq]
  cases hz : eqb (z 5) 0 with
  | false => exact TC.seq (nilA2 z 6 ) (TC.seq (TC.block (TC.seq (nilB2 z 6 ) (TC.seq (nilI2 z 6) (nilD6_2_true_0 z (by rw [hz]; rfl)))) (.inl rfl)) (nilE2 z 6 ))
  | true => exact TC.seq (nilA2 z 6 ) (TC.seq (TC.block (TC.seq (nilB2 z 6 ) (TC.seq (nilI2 z 6) (nilD6_2_false_0 z (by rw [hz]; rfl)))) (.inl rfl)) (nilE2 z 6 ))
theorem nilD6_3_false_0 (z : Nat → Int) (h : (!eqb (z 7) 0) = false) : TC Try.prog 68 (sq2 (sq2 in8)) (frL' (fe8 6 nilV 3 0)) 1 (stL (s0' z)) .normal (frL' (fo8 6 nilV 3)) 1 (stL (s0' z)) := by
  have e : (oSt (ev8 [(0, false), (1, false), (2, false), (3, false)] [] 1 (sq2 (sq2 in8)) (fe8 6 nilV 3 0) (s0' z))).ok = okT [(!eqb (z 7) 0) == false, (!eqb (z 7) 0) == false, (!eqb (z 7) 0) == false, (!eqb (z 7) 0) == false] true := by kernel_rfl
  exact tc8 (φ := [(0, false), (1, false), (2, false), (3, false)]) (nils := []) (by kernel_rfl) (e.trans (by rw [h]; rfl)) ⟨by kernel_rfl, by kernel_rfl, by kernel_rfl, by kernel_rfl, trivial⟩ (by kernel_rfl) ⟨by kernel_rfl, trivial⟩
theorem nilR6_3 (z : Nat → Int) (hLe : resL z 6 = []) : TC Try.prog 68 o8 (frL' (fo8 6 nilV 3)) 1 (stL (s0' z)) .normal (frL' (fo8 6 nilV 4)) 1 (stL (s0' z)) := by
  rw [o8_eq]
  have hr := c6_3 z
  rw [hLe] at hr
  cases hz : eqb (z 7) 0 with
  | false => exact absurd (hr.2 hz) (by simp [ucnt])
  | true => exact TC.seq (nilA3 z 6 ) (TC.seq (TC.block (TC.seq (nilB3 z 6 ) (TC.seq (nilI3 z 6) (nilD6_3_false_0 z (by rw [hz]; rfl)))) (.inl rfl)) (nilE3 z 6 ))
theorem nilD6_4_true_0 (z : Nat → Int) (h : (!eqb (z 9) 0) = true) : TC Try.prog 68 (sq2 (sq2 in8)) (frL' (fe8 6 nilV 4 0)) 1 (stL (s0' z)) .normal (frL' (fo8 6 nilV 4)) 1 (stL (s0' z)) := by
  have e : (oSt (ev8 [(0, true), (1, true), (2, true), (3, true)] [] 1 (sq2 (sq2 in8)) (fe8 6 nilV 4 0) (s0' z))).ok = okT [(!eqb (z 9) 0) == true, (!eqb (z 9) 0) == true, (!eqb (z 9) 0) == true, (!eqb (z 9) 0) == true] true := by kernel_rfl
  exact tc8 (φ := [(0, true), (1, true), (2, true), (3, true)]) (nils := []) (by kernel_rfl) (e.trans (by rw [h]; rfl)) ⟨by kernel_rfl, by kernel_rfl, by kernel_rfl, by kernel_rfl, trivial⟩ (by kernel_rfl) ⟨by kernel_rfl, trivial⟩
theorem nilD6_4_false_0 (z : Nat → Int) (h : (!eqb (z 9) 0) = false) : TC Try.prog 68 (sq2 (sq2 in8)) (frL' (fe8 6 nilV 4 0)) 1 (stL (s0' z)) .normal (frL' (fo8 6 nilV 4)) 1 (stL (s0' z)) := by
  have e : (oSt (ev8 [(0, false), (1, false), (2, false), (3, false)] [] 1 (sq2 (sq2 in8)) (fe8 6 nilV 4 0) (s0' z))).ok = okT [(!eqb (z 9) 0) == false, (!eqb (z 9) 0) == false, (!eqb (z 9) 0) == false, (!eqb (z 9) 0) == false] true := by kernel_rfl
  exact tc8 (φ := [(0, false), (1, false), (2, false), (3, false)]) (nils := []) (by kernel_rfl) (e.trans (by rw [h]; rfl)) ⟨by kernel_rfl, by kernel_rfl, by kernel_rfl, by kernel_rfl, trivial⟩ (by kernel_rfl) ⟨by kernel_rfl, trivial⟩
theorem nilR6_4 (z : Nat → Int) (hLe : resL z 6 = []) : TC Try.prog 68 o8 (frL' (fo8 6 nilV 4)) 1 (stL (s0' z)) .normal (frL' (fo8 6 nilV 5)) 1 (stL (s0' z)) := by
  rw [o8_eq]
  cases hz : eqb (z 9) 0 with
  | false => exact TC.seq (nilA4 z 6 ) (TC.seq (TC.block (TC.seq (nilB4 z 6 ) (TC.seq (nilI4 z 6) (nilD6_4_true_0 z (by rw [hz]; rfl)))) (.inl rfl)) (nilE4 z 6 ))
  | true => exact TC.seq (nilA4 z 6 ) (TC.seq (TC.block (TC.seq (nilB4 z 6 ) (TC.seq (nilI4 z 6) (nilD6_4_false_0 z (by rw [hz]; rfl)))) (.inl rfl)) (nilE4 z 6 ))
theorem nilD6_5_true_0 (z : Nat → Int) (h : (!eqb (z 11) 0) = true) : TC Try.prog 68 (sq2 (sq2 in8)) (frL' (fe8 6 nilV 5 0)) 1 (stL (s0' z)) .normal (frL' (fo8 6 nilV 5)) 1 (stL (s0' z)) := by
  have e : (oSt (ev8 [(0, true), (1, true), (2, true), (3, true)] [] 1 (sq2 (sq2 in8)) (fe8 6 nilV 5 0) (s0' z))).ok = okT [(!eqb (z 11) 0) == true, (!eqb (z 11) 0) == true, (!eqb (z 11) 0) == true, (!eqb (z 11) 0) == true] true := by kernel_rfl
  exact tc8 (φ := [(0, true), (1, true), (2, true), (3, true)]) (nils := []) (by kernel_rfl) (e.trans (by rw [h]; rfl)) ⟨by kernel_rfl, by kernel_rfl, by kernel_rfl, by kernel_rfl, trivial⟩ (by kernel_rfl) ⟨by kernel_rfl, trivial⟩
theorem nilD6_5_false_0 (z : Nat → Int) (h : (!eqb (z 11) 0) = false) : TC Try.prog 68 (sq2 (sq2 in8)) (frL' (fe8 6 nilV 5 0)) 1 (stL (s0' z)) .normal (frL' (fo8 6 nilV 5)) 1 (stL (s0' z)) := by
  have e : (oSt (ev8 [(0, false), (1, false), (2, false), (3, false)] [] 1 (sq2 (sq2 in8)) (fe8 6 nilV 5 0) (s0' z))).ok = okT [(!eqb (z 11) 0) == false, (!eqb (z 11) 0) == false, (!eqb (z 11) 0) == false, (!eqb (z 11) 0) == false] true := by kernel_rfl
  exact tc8 (φ := [(0, false), (1, false), (2, false), (3, false)]) (nils := []) (by kernel_rfl) (e.trans (by rw [h]; rfl)) ⟨by kernel_rfl, by kernel_rfl, by kernel_rfl, by kernel_rfl, trivial⟩ (by kernel_rfl) ⟨by kernel_rfl, trivial⟩
theorem nilR6_5 (z : Nat → Int) (hLe : resL z 6 = []) : TC Try.prog 68 o8 (frL' (fo8 6 nilV 5)) 1 (stL (s0' z)) .normal (frL' (fo8 6 nilV 6)) 1 (stL (s0' z)) := by
  rw [o8_eq]
  cases hz : eqb (z 11) 0 with
  | false => exact TC.seq (nilA5 z 6 ) (TC.seq (TC.block (TC.seq (nilB5 z 6 ) (TC.seq (nilI5 z 6) (nilD6_5_true_0 z (by rw [hz]; rfl)))) (.inl rfl)) (nilE5 z 6 ))
  | true => exact TC.seq (nilA5 z 6 ) (TC.seq (TC.block (TC.seq (nilB5 z 6 ) (TC.seq (nilI5 z 6) (nilD6_5_false_0 z (by rw [hz]; rfl)))) (.inl rfl)) (nilE5 z 6 ))
theorem nilD6_6_true_0 (z : Nat → Int) (h : (!eqb (z 13) 0) = true) : TC Try.prog 68 (sq2 (sq2 in8)) (frL' (fe8 6 nilV 6 0)) 1 (stL (s0' z)) .normal (frL' (fo8 6 nilV 6)) 1 (stL (s0' z)) := by
  have e : (oSt (ev8 [(0, true), (1, true), (2, true), (3, true)] [] 1 (sq2 (sq2 in8)) (fe8 6 nilV 6 0) (s0' z))).ok = okT [(!eqb (z 13) 0) == true, (!eqb (z 13) 0) == true, (!eqb (z 13) 0) == true, (!eqb (z 13) 0) == true] true := by kernel_rfl
  exact tc8 (φ := [(0, true), (1, true), (2, true), (3, true)]) (nils := []) (by kernel_rfl) (e.trans (by rw [h]; rfl)) ⟨by kernel_rfl, by kernel_rfl, by kernel_rfl, by kernel_rfl, trivial⟩ (by kernel_rfl) ⟨by kernel_rfl, trivial⟩
theorem nilD6_6_false_0 (z : Nat → Int) (h : (!eqb (z 13) 0) = false) : TC Try.prog 68 (sq2 (sq2 in8)) (frL' (fe8 6 nilV 6 0)) 1 (stL (s0' z)) .normal (frL' (fo8 6 nilV 6)) 1 (stL (s0' z)) := by
  have e : (oSt (ev8 [(0, false), (1, false), (2, false), (3, false)] [] 1 (sq2 (sq2 in8)) (fe8 6 nilV 6 0) (s0' z))).ok = okT [(!eqb (z 13) 0) == false, (!eqb (z 13) 0) == false, (!eqb (z 13) 0) == false, (!eqb (z 13) 0) == false] true := by kernel_rfl
  exact tc8 (φ := [(0, false), (1, false), (2, false), (3, false)]) (nils := []) (by kernel_rfl) (e.trans (by rw [h]; rfl)) ⟨by kernel_rfl, by kernel_rfl, by kernel_rfl, by kernel_rfl, trivial⟩ (by kernel_rfl) ⟨by kernel_rfl, trivial⟩
theorem nilR6_6 (z : Nat → Int) (hLe : resL z 6 = []) : TC Try.prog 68 o8 (frL' (fo8 6 nilV 6)) 1 (stL (s0' z)) .normal (frL' (fo8 6 nilV 7)) 1 (stL (s0' z)) := by
  rw [o8_eq]
  cases hz : eqb (z 13) 0 with
  | false => exact TC.seq (nilA6 z 6 ) (TC.seq (TC.block (TC.seq (nilB6 z 6 ) (TC.seq (nilI6 z 6) (nilD6_6_true_0 z (by rw [hz]; rfl)))) (.inl rfl)) (nilE6 z 6 ))
  | true => exact TC.seq (nilA6 z 6 ) (TC.seq (TC.block (TC.seq (nilB6 z 6 ) (TC.seq (nilI6 z 6) (nilD6_6_false_0 z (by rw [hz]; rfl)))) (.inl rfl)) (nilE6 z 6 ))
theorem nilD6_7_true_0 (z : Nat → Int) (h : (!eqb (z 15) 0) = true) : TC Try.prog 68 (sq2 (sq2 in8)) (frL' (fe8 6 nilV 7 0)) 1 (stL (s0' z)) .normal (frL' (fo8 6 nilV 7)) 1 (stL (s0' z)) := by
  have e : (oSt (ev8 [(0, true), (1, true), (2, true), (3, true)] [] 1 (sq2 (sq2 in8)) (fe8 6 nilV 7 0) (s0' z))).ok = okT [(!eqb (z 15) 0) == true, (!eqb (z 15) 0) == true, (!eqb (z 15) 0) == true, (!eqb (z 15) 0) == true] true := by kernel_rfl
  exact tc8 (φ := [(0, true), (1, true), (2, true), (3, true)]) (nils := []) (by kernel_rfl) (e.trans (by rw [h]; rfl)) ⟨by kernel_rfl, by kernel_rfl, by kernel_rfl, by kernel_rfl, trivial⟩ (by kernel_rfl) ⟨by kernel_rfl, trivial⟩
theorem nilD6_7_false_0 (z : Nat → Int) (h : (!eqb (z 15) 0) = false) : TC Try.prog 68 (sq2 (sq2 in8)) (frL' (fe8 6 nilV 7 0)) 1 (stL (s0' z)) .normal (frL' (fo8 6 nilV 7)) 1 (stL (s0' z)) := by
  have e : (oSt (ev8 [(0, false), (1, false), (2, false), (3, false)] [] 1 (sq2 (sq2 in8)) (fe8 6 nilV 7 0) (s0' z))).ok = okT [(!eqb (z 15) 0) == false, (!eqb (z 15) 0) == false, (!eqb (z 15) 0) == false, (!eqb (z 15) 0) == false] true := by kernel_rfl
  exact tc8 (φ := [(0, false), (1, false), (2, false), (3, false)]) (nils := []) (by kernel_rfl) (e.trans (by rw [h]; rfl)) ⟨by kernel_rfl, by kernel_rfl, by kernel_rfl, by kernel_rfl, trivial⟩ (by kernel_rfl) ⟨by kernel_rfl, trivial⟩
theorem nilR6_7 (z : Nat → Int) (hLe : resL z 6 = []) : TC Try.prog 68 o8 (frL' (fo8 6 nilV 7)) 1 (stL (s0' z)) .normal (frL' (fo8 6 nilV 8)) 1 (stL (s0' z)) := by
  rw [o8_eq]
  cases hz : eqb (z 15) 0 with
  | false => exact TC.seq (nilA7 z 6 ) (TC.seq (TC.block (TC.seq (nilB7 z 6 ) (TC.seq (nilI7 z 6) (nilD6_7_true_0 z (by rw [hz]; rfl)))) (.inl rfl)) (nilE7 z 6 ))
  | true => exact TC.seq (nilA7 z 6 ) (TC.seq (TC.block (TC.seq (nilB7 z 6 ) (TC.seq (nilI7 z 6) (nilD6_7_false_0 z (by rw [hz]; rfl)))) (.inl rfl)) (nilE7 z 6 ))
theorem nilW6 (z : Nat → Int) (hLe : resL z 6 = []) : TC Try.prog 68 (.seq (.seq (sq1 (sq1 (sq2 out8))) (.block 0 (.loop o8))) (sq2 (sq2 out8))) (frL' [(1, .sc (.int .i64 6)), (2, .ptr 0 0), (5, nilV)]) 1 (stL (s0' z)) .ret (frL' [(4, .sc (.bool true))]) 1 (stL (s0' z)) :=
  TC.seq (TC.seq (nilS z 6 ) (TC.block (TC.loop (k := 9) (TR.more (nilR6_0 z hLe) (TR.more (nilR6_1 z hLe) (TR.more (nilR6_2 z hLe) (TR.more (nilR6_3 z hLe) (TR.more (nilR6_4 z hLe) (TR.more (nilR6_5 z hLe) (TR.more (nilR6_6 z hLe) (TR.more (nilR6_7 z hLe) (TR.out (nilX z 6 ) (by simp))))))))))) (.inr rfl))) (nilZ z )
theorem nilD7_0_false_0 (z : Nat → Int) (h : (!eqb (z 1) 0) = false) : TC Try.prog 68 (sq2 (sq2 in8)) (frL' (fe8 7 nilV 0 0)) 1 (stL (s0' z)) .normal (frL' (fo8 7 nilV 0)) 1 (stL (s0' z)) := by
  have e : (oSt (ev8 [(0, false), (1, false), (2, false), (3, false)] [] 1 (sq2 (sq2 in8)) (fe8 7 nilV 0 0) (s0' z))).ok = okT [(!eqb (z 1) 0) == false, (!eqb (z 1) 0) == false, (!eqb (z 1) 0) == false, (!eqb (z 1) 0) == false] true := by kernel_rfl
  exact tc8 (φ := [(0, false), (1, false), (2, false), (3, false)]) (nils := []) (by kernel_rfl) (e.trans (by rw [h]; rfl)) ⟨by kernel_rfl, by kernel_rfl, by kernel_rfl, by kernel_rfl, trivial⟩ (by kernel_rfl) ⟨by kernel_rfl, trivial⟩
theorem nilR7_0 (z : Nat → Int) (hLe : resL z 7 = []) : TC Try.prog 68 o8 (frL' (fo8 7 nilV 0)) 1 (stL (s0' z)) .normal (frL' (fo8 7 nilV 1)) 1 (stL (s0' z)) := by
  rw [o8_eq]
  have hr := c7_0 z
  rw [hLe] at hr
  cases hz : eqb (z 1) 0 with
  | false => exact absurd (hr.2 hz) (by simp [ucnt])
  | true => exact TC.seq (nilA0 z 7 ) (TC.seq (TC.block (TC.seq (nilB0 z 7 ) (TC.seq (nilI0 z 7) (nilD7_0_false_0 z (by rw [hz]; rfl)))) (.inl rfl)) (nilE0 z 7 ))
theorem nilD7_1_false_0 (z : Nat → Int) (h : (!eqb (z 3) 0) = false) : TC Try.prog 68 (sq2 (sq2 in8)) (frL' (fe8 7 nilV 1 0)) 1 (stL (s0' z)) .normal (frL' (fo8 7 nilV 1)) 1 (stL (s0' z)) := by
  have e : (oSt (ev8 [(0, false), (1, false), (2, false), (3, false)] [] 1 (sq2 (sq2 in8)) (fe8 7 nilV 1 0) (s0' z))).ok = okT [(!eqb (z 3) 0) == false, (!eqb (z 3) 0) == false, (!eqb (z 3) 0) == false, (!eqb (z 3) 0) == false] true := by kernel_rfl
  exact tc8 (φ := [(0, false), (1, false), (2, false), (3, false)]) (nils := []) (by kernel_rfl) (e.trans (by rw [h]; rfl)) ⟨by kernel_rfl, by kernel_rfl, by kernel_rfl, by kernel_rfl, trivial⟩ (by kernel_rfl) ⟨by kernel_rfl, trivial⟩
theorem nilR7_1 (z : Nat → Int) (hLe : resL z 7 = []) : TC Try.prog 68 o8 (frL' (fo8 7 nilV 1)) 1 (stL (s0' z)) .normal (frL' (fo8 7 nilV 2)) 1 (stL (s0' z)) := by
  rw [o8_eq]
  have hr := c7_1 z
  rw [hLe] at hr
  cases hz : eqb (z 3) 0 with
  | false => exact absurd (hr.2 hz) (by simp [ucnt])
  | true => exact TC.seq (nilA1 z 7 ) (TC.seq (TC.block (TC.seq (nilB1 z 7 ) (TC.seq (nilI1 z 7) (nilD7_1_false_0 z (by rw [hz]; rfl)))) (.inl rfl)) (nilE1 z 7 ))
theorem nilD7_2_false_0 (z : Nat → Int) (h : (!eqb (z 5) 0) = false) : TC Try.prog 68 (sq2 (sq2 in8)) (frL' (fe8 7 nilV 2 0)) 1 (stL (s0' z)) .normal (frL' (fo8 7 nilV 2)) 1 (stL (s0' z)) := by
  have e : (oSt (ev8 [(0, false), (1, false), (2, false), (3, false)] [] 1 (sq2 (sq2 in8)) (fe8 7 nilV 2 0) (s0' z))).ok = okT [(!eqb (z 5) 0) == false, (!eqb (z 5) 0) == false, (!eqb (z 5) 0) == false, (!eqb (z 5) 0) == false] true := by kernel_rfl
  exact tc8 (φ := [(0, false), (1, false), (2, false), (3, false)]) (nils := []) (by kernel_rfl) (e.trans (by rw [h]; rfl)) ⟨by kernel_rfl, by kernel_rfl, by kernel_rfl, by kernel_rfl, trivial⟩ (by kernel_rfl) ⟨by kernel_rfl, trivial⟩
theorem nilR7_2 (z : Nat → Int) (hLe : resL z 7 = []) : TC Try.prog 68 o8 (frL' (fo8 7 nilV 2)) 1 (stL (s0' z)) .normal (frL' (fo8 7 nilV 3)) 1 (stL (s0' z)) := by
  rw [o8_eq]
  have hr := c7_2 z
  rw [hLe] at hr
  cases hz : eqb (z 5) 0 with
  | false => exact absurd (hr.2 hz) (by simp [ucnt])
  | true => exact TC.seq (nilA2 z 7 ) (TC.seq (TC.block (TC.seq (nilB2 z 7 ) (TC.seq (nilI2 z 7) (nilD7_2_false_0 z (by rw [hz]; rfl)))) (.inl rfl)) (nilE2 z 7 ))
theorem nilD7_3_false_0 (z : Nat → Int) (h : (!eqb (z 7) 0) = false) : TC Try.prog 68 (sq2 (sq2 in8)) (frL' (fe8 7 nilV 3 0)) 1 (stL (s0' z)) .normal (frL' (fo8 7 nilV 3)) 1 (stL (s0' z)) := by
  have e : (oSt (ev8 [(0, false), (1, false), (2, false), (3, false)] [] 1 (sq2 (sq2 in8)) (fe8 7 nilV 3 0) (s0' z))).ok = okT [(!eqb (z 7) 0) == false, (!eqb (z 7) 0) == false, (!eqb (z 7) 0) == false, (!eqb (z 7) 0) == false] true := by kernel_rfl
  exact tc8 (φ := [(0, false), (1, false), (2, false), (3, false)]) (nils := []) (by kernel_rfl) (e.trans (by rw [h]; rfl)) ⟨by kernel_rfl, by kernel_rfl, by kernel_rfl, by kernel_rfl, trivial⟩ (by kernel_rfl) ⟨by kernel_rfl, trivial⟩
theorem nilR7_3 (z : Nat → Int) (hLe : resL z 7 = []) : TC Try.prog 68 o8 (frL' (fo8 7 nilV 3)) 1 (stL (s0' z)) .normal (frL' (fo8 7 nilV 4)) 1 (stL (s0' z)) := by
  rw [o8_eq]
  have hr := c7_3 z
  rw [hLe] at hr
  cases hz : eqb (z 7) 0 with
  | false => exact absurd (hr.2 hz) (by simp [ucnt])
  | true => exact TC.seq (nilA3 z 7 ) (TC.seq (TC.block (TC.seq (nilB3 z 7 ) (TC.seq (nilI3 z 7) (nilD7_3_false_0 z (by rw [hz]; rfl)))) (.inl rfl)) (nilE3 z 7 ))
theorem nilD7_4_false_0 (z : Nat → Int) (h : (!eqb (z 9) 0) = false) : TC Try.prog 68 (sq2 (sq2 in8)) (frL' (fe8 7 nilV 4 0)) 1 (stL (s0' z)) .normal (frL' (fo8 7 nilV 4)) 1 (stL (s0' z)) := by
  have e : (oSt (ev8 [(0, false), (1, false), (2, false), (3, false)] [] 1 (sq2 (sq2 in8)) (fe8 7 nilV 4 0) (s0' z))).ok = okT [(!eqb (z 9) 0) == false, (!eqb (z 9) 0) == false, (!eqb (z 9) 0) == false, (!eqb (z 9) 0) == false] true := by kernel_rfl
  exact tc8 (φ := [(0, false), (1, false), (2, false), (3, false)]) (nils := []) (by kernel_rfl) (e.trans (by rw [h]; rfl)) ⟨by kernel_rfl, by kernel_rfl, by kernel_rfl, by kernel_rfl, trivial⟩ (by kernel_rfl) ⟨by kernel_rfl, trivial⟩
theorem nilR7_4 (z : Nat → Int) (hLe : resL z 7 = []) : TC Try.prog 68 o8 (frL' (fo8 7 nilV 4)) 1 (stL (s0' z)) .normal (frL' (fo8 7 nilV 5)) 1 (stL (s0' z)) := by
  rw [o8_eq]
  have hr := c7_4 z
  rw [hLe] at hr
  cases hz : eqb (z 9) 0 with
  | false => exact absurd (hr.2 hz) (by simp [ucnt])
  | true => exact TC.seq (nilA4 z 7 ) (TC.seq (TC.block (TC.seq (nilB4 z 7 ) (TC.seq (nilI4 z 7) (nilD7_4_false_0 z (by rw [hz]; rfl)))) (.inl rfl)) (nilE4 z 7 ))
theorem nilD7_5_false_0 (z : Nat → Int) (h : (!eqb (z 11) 0) = false) : TC Try.prog 68 (sq2 (sq2 in8)) (frL' (fe8 7 nilV 5 0)) 1 (stL (s0' z)) .normal (frL' (fo8 7 nilV 5)) 1 (stL (s0' z)) := by
  have e : (oSt (ev8 [(0, false), (1, false), (2, false), (3, false)] [] 1 (sq2 (sq2 in8)) (fe8 7 nilV 5 0) (s0' z))).ok = okT [(!eqb (z 11) 0) == false, (!eqb (z 11) 0) == false, (!eqb (z 11) 0) == false, (!eqb (z 11) 0) == false] true := by kernel_rfl
  exact tc8 (φ := [(0, false), (1, false), (2, false), (3, false)]) (nils := []) (by kernel_rfl) (e.trans (by rw [h]; rfl)) ⟨by kernel_rfl, by kernel_rfl, by kernel_rfl, by kernel_rfl, trivial⟩ (by kernel_rfl) ⟨by kernel_rfl, trivial⟩
theorem nilR7_5 (z : Nat → Int) (hLe : resL z 7 = []) : TC Try.prog 68 o8 (frL' (fo8 7 nilV 5)) 1 (stL (s0' z)) .normal (frL' (fo8 7 nilV 6)) 1 (stL (s0' z)) := by
  rw [o8_eq]
  have hr := c7_5 z
  rw [hLe] at hr
  cases hz : eqb (z 11) 0 with
  | false => exact absurd (hr.2 hz) (by simp [ucnt])
  | true => exact TC.seq (nilA5 z 7 ) (TC.seq (TC.block (TC.seq (nilB5 z 7 ) (TC.seq (nilI5 z 7) (nilD7_5_false_0 z (by rw [hz]; rfl)))) (.inl rfl)) (nilE5 z 7 ))
theorem nilD7_6_false_0 (z : Nat → Int) (h : (!eqb (z 13) 0) = false) : TC Try.prog 68 (sq2 (sq2 in8)) (frL' (fe8 7 nilV 6 0)) 1 (stL (s0' z)) .normal (frL' (fo8 7 nilV 6)) 1 (stL (s0' z)) := by
  have e : (oSt (ev8 [(0, false), (1, false), (2, false), (3, false)] [] 1 (sq2 (sq2 in8)) (fe8 7 nilV 6 0) (s0' z))).ok = okT [(!eqb (z 13) 0) == false, (!eqb (z 13) 0) == false, (!eqb (z 13) 0) == false, (!eqb (z 13) 0) == false] true := by kernel_rfl
  exact tc8 (φ := [(0, false), (1, false), (2, false), (3, false)]) (nils := []) (by kernel_rfl) (e.trans (by rw [h]; rfl)) ⟨by kernel_rfl, by kernel_rfl, by kernel_rfl, by kernel_rfl, trivial⟩ (by kernel_rfl) ⟨by kernel_rfl, trivial⟩
theorem nilR7_6 (z : Nat → Int) (hLe : resL z 7 = []) : TC Try.prog 68 o8 (frL' (fo8 7 nilV 6)) 1 (stL (s0' z)) .normal (frL' (fo8 7 nilV 7)) 1 (stL (s0' z)) := by
  rw [o8_eq]
  have hr := c7_6 z
  rw [hLe] at hr
  cases hz : eqb (z 13) 0 with
  | false => exact absurd (hr.2 hz) (by simp [ucnt])
  | true => exact TC.seq (nilA6 z 7 ) (TC.seq (TC.block (TC.seq (nilB6 z 7 ) (TC.seq (nilI6 z 7) (nilD7_6_false_0 z (by rw [hz]; rfl)))) (.inl rfl)) (nilE6 z 7 ))
theorem nilD7_7_false_0 (z : Nat → Int) (h : (!eqb (z 15) 0) = false) : TC Try.prog 68 (sq2 (sq2 in8)) (frL' (fe8 7 nilV 7 0)) 1 (stL (s0' z)) .normal (frL' (fo8 7 nilV 7)) 1 (stL (s0' z)) := by
  have e : (oSt (ev8 [(0, false), (1, false), (2, false), (3, false)] [] 1 (sq2 (sq2 in8)) (fe8 7 nilV 7 0) (s0' z))).ok = okT [(!eqb (z 15) 0) == false, (!eqb (z 15) 0) == false, (!eqb (z 15) 0) == false, (!eqb (z 15) 0) == false] true := by kernel_rfl
  exact tc8 (φ := [(0, false), (1, false), (2, false), (3, false)]) (nils := []) (by kernel_rfl) (e.trans (by rw [h]; rfl)) ⟨by kernel_rfl, by kernel_rfl, by kernel_rfl, by kernel_rfl, trivial⟩ (by kernel_rfl) ⟨by kernel_rfl, trivial⟩
theorem nilR7_7 (z : Nat → Int) (hLe : resL z 7 = []) : TC Try.prog 68 o8 (frL' (fo8 7 nilV 7)) 1 (stL (s0' z)) .normal (frL' (fo8 7 nilV 8)) 1 (stL (s0' z)) := by
  rw [o8_eq]
  have hr := c7_7 z
  rw [hLe] at hr
  cases hz : eqb (z 15) 0 with
  | false => exact absurd (hr.2 hz) (by simp [ucnt])
  | true => exact TC.seq (nilA7 z 7 ) (TC.seq (TC.block (TC.seq (nilB7 z 7 ) (TC.seq (nilI7 z 7) (nilD7_7_false_0 z (by rw [hz]; rfl)))) (.inl rfl)) (nilE7 z 7 ))
theorem nilW7 (z : Nat → Int) (hLe : resL z 7 = []) : TC Try.prog 68 (.seq (.seq (sq1 (sq1 (sq2 out8))) (.block 0 (.loop o8))) (sq2 (sq2 out8))) (frL' [(1, .sc (.int .i64 7)), (2, .ptr 0 0), (5, nilV)]) 1 (stL (s0' z)) .ret (frL' [(4, .sc (.bool true))]) 1 (stL (s0' z)) :=
  TC.seq (TC.seq (nilS z 7 ) (TC.block (TC.loop (k := 9) (TR.more (nilR7_0 z hLe) (TR.more (nilR7_1 z hLe) (TR.more (nilR7_2 z hLe) (TR.more (nilR7_3 z hLe) (TR.more (nilR7_4 z hLe) (TR.more (nilR7_5 z hLe) (TR.more (nilR7_6 z hLe) (TR.more (nilR7_7 z hLe) (TR.out (nilX z 7 ) (by simp))))))))))) (.inr rfl))) (nilZ z )
theorem nilD8_0_true_0 (z : Nat → Int) (h : (!eqb (z 1) 0) = true) : TC Try.prog 68 (sq2 (sq2 in8)) (frL' (fe8 8 nilV 0 0)) 1 (stL (s0' z)) .normal (frL' (fo8 8 nilV 0)) 1 (stL (s0' z)) := by
  have e : (oSt (ev8 [(0, true), (1, true), (2, true), (3, true)] [] 1 (sq2 (sq2 in8)) (fe8 8 nilV 0 0) (s0' z))).ok = okT [(!eqb (z 1) 0) == true, (!eqb (z 1) 0) == true, (!eqb (z 1) 0) == true, (!eqb (z 1) 0) == true] true := by kernel_rfl
  exact tc8 (φ := [(0, true), (1, true), (2, true), (3, true)]) (nils := []) (by kernel_rfl) (e.trans (by rw [h]; rfl)) ⟨by kernel_rfl, by kernel_rfl, by kernel_rfl, by kernel_rfl, trivial⟩ (by kernel_rfl) ⟨by kernel_rfl, trivial⟩
theorem nilD8_0_false_0 (z : Nat → Int) (h : (!eqb (z 1) 0) = false) : TC Try.prog 68 (sq2 (sq2 in8)) (frL' (fe8 8 nilV 0 0)) 1 (stL (s0' z)) .normal (frL' (fo8 8 nilV 0)) 1 (stL (s0' z)) := by
  have e : (oSt (ev8 [(0, false), (1, false), (2, false), (3, false)] [] 1 (sq2 (sq2 in8)) (fe8 8 nilV 0 0) (s0' z))).ok = okT [(!eqb (z 1) 0) == false, (!eqb (z 1) 0) == false, (!eqb (z 1) 0) == false, (!eqb (z 1) 0) == false] true := by kernel_rfl
  exact tc8 (φ := [(0, false), (1, false), (2, false), (3, false)]) (nils := []) (by kernel_rfl) (e.trans (by rw [h]; rfl)) ⟨by kernel_rfl, by kernel_rfl, by kernel_rfl, by kernel_rfl, trivial⟩ (by kernel_rfl) ⟨by kernel_rfl, trivial⟩
theorem nilR8_0 (z : Nat → Int) (hLe : resL z 8 = []) : TC Try.prog 68 o8 (frL' (fo8 8 nilV 0)) 1 (stL (s0' z)) .normal (frL' (fo8 8 nilV 1)) 1 (stL (s0' z)) := by
  rw [o8_eq]
  cases hz : eqb (z 1) 0 with
  | false => exact TC.seq (nilA0 z 8 ) (TC.seq (TC.block (TC.seq (nilB0 z 8 ) (TC.seq (nilI0 z 8) (nilD8_0_true_0 z (by rw [hz]; rfl)))) (.inl rfl)) (nilE0 z 8 ))
  | true => exact TC.seq (nilA0 z 8 ) (TC.seq (TC.block (TC.seq (nilB0 z 8 ) (TC.seq (nilI0 z 8) (nilD8_0_false_0 z (by rw [hz]; rfl)))) (.inl rfl)) (nilE0 z 8 ))
theorem nilD8_1_true_0 (z : Nat → Int) (h : (!eqb (z 3) 0) = true) : TC Try.prog 68 (sq2 (sq2 in8)) (frL' (fe8 8 nilV 1 0)) 1 (stL (s0' z)) .normal (frL' (fo8 8 nilV 1)) 1 (stL (s0' z)) := by
  have e : (oSt (ev8 [(0, true), (1, true), (2, true), (3, true)] [] 1 (sq2 (sq2 in8)) (fe8 8 nilV 1 0) (s0' z))).ok = okT [(!eqb (z 3) 0) == true, (!eqb (z 3) 0) == true, (!eqb (z 3) 0) == true, (!eqb (z 3) 0) == true] true := by kernel_rfl
  exact tc8 (φ := [(0, true), (1, true), (2, true), (3, true)]) (nils := []) (by kernel_rfl) (e.trans (by rw [h]; rfl)) ⟨by kernel_rfl, by kernel_rfl, by kernel_rfl, by kernel_rfl, trivial⟩ (by kernel_rfl) ⟨by kernel_rfl, trivial⟩
theorem nilD8_1_false_0 (z : Nat → Int) (h : (!eqb (z 3) 0) = false) : TC Try.prog 68 (sq2 (sq2 in8)) (frL' (fe8 8 nilV 1 0)) 1 (stL (s0' z)) .normal (frL' (fo8 8 nilV 1)) 1 (stL (s0' z)) := by
  have e : (oSt (ev8 [(0, false), (1, false), (2, false), (3, false)] [] 1 (sq2 (sq2 in8)) (fe8 8 nilV 1 0) (s0' z))).ok = okT [(!eqb (z 3) 0) == false, (!eqb (z 3) 0) == false, (!eqb (z 3) 0) == false, (!eqb (z 3) 0) == false] true := by kernel_rfl
  exact tc8 (φ := [(0, false), (1, false), (2, false), (3, false)]) (nils := []) (by kernel_rfl) (e.trans (by rw [h]; rfl)) ⟨by kernel_rfl, by kernel_rfl, by kernel_rfl, by kernel_rfl, trivial⟩ (by kernel_rfl) ⟨by kernel_rfl, trivial⟩
theorem nilR8_1 (z : Nat → Int) (hLe : resL z 8 = []) : TC Try.prog 68 o8 (frL' (fo8 8 nilV 1)) 1 (stL (s0' z)) .normal (frL' (fo8 8 nilV 2)) 1 (stL (s0' z)) := by
  rw [o8_eq]
  cases hz : eqb (z 3) 0 with
  | false => exact TC.seq (nilA1 z 8 ) (TC.seq (TC.block (TC.seq (nilB1 z 8 ) (TC.seq (nilI1 z 8) (nilD8_1_true_0 z (by rw [hz]; rfl)))) (.inl rfl)) (nilE1 z 8 ))
  | true => exact TC.seq (nilA1 z 8 ) (TC.seq (TC.block (TC.seq (nilB1 z 8 ) (TC.seq (nilI1 z 8) (nilD8_1_false_0 z (by rw [hz]; rfl)))) (.inl rfl)) (nilE1 z 8 ))
theorem nilD8_2_true_0 (z : Nat → Int) (h : (!eqb (z 5) 0) = true) : TC Try.prog 68 (sq2 (sq2 in8)) (frL' (fe8 8 nilV 2 0)) 1 (stL (s0' z)) .normal (frL' (fo8 8 nilV 2)) 1 (stL (s0' z)) := by
  have e : (oSt (ev8 [(0, true), (1, true), (2, true), (3, true)] [] 1 (sq2 (sq2 in8)) (fe8 8 nilV 2 0) (s0' z))).ok = okT [(!eqb (z 5) 0) == true, (!eqb (z 5) 0) == true, (!eqb (z 5) 0) == true, (!eqb (z 5) 0) == true] true := by kernel_rfl
  exact tc8 (φ := [(0, true), (1, true), (2, true), (3, true)]) (nils := []) (by kernel_rfl) (e.trans (by rw [h]; rfl)) ⟨by kernel_rfl, by kernel_rfl, by kernel_rfl, by kernel_rfl, trivial⟩ (by kernel_rfl) ⟨by kernel_rfl, trivial⟩
theorem nilD8_2_false_0 (z : Nat → Int) (h : (!eqb (z 5) 0) = false) : TC Try.prog 68 (sq2 (sq2 in8)) (frL' (fe8 8 nilV 2 0)) 1 (stL (s0' z)) .normal (frL' (fo8 8 nilV 2)) 1 (stL (s0' z)) := by
  have e : (oSt (ev8 [(0, false), (1, false), (2, false), (3, false)] [] 1 (sq2 (sq2 in8)) (fe8 8 nilV 2 0) (s0' z))).ok = okT [(!eqb (z 5) 0) == false, (!eqb (z 5) 0) == false, (!eqb (z 5) 0) == false, (!eqb (z 5) 0) == false] true := by kernel_rfl
  exact tc8 (φ := [(0, false), (1, false), (2, false), (3, false)]) (nils := []) (by kernel_rfl) (e.trans (by rw [h]; rfl)) ⟨by kernel_rfl, by kernel_rfl, by kernel_rfl, by kernel_rfl, trivial⟩ (by kernel_rfl) ⟨by kernel_rfl, trivial⟩
theorem nilR8_2 (z : Nat → Int) (hLe : resL z 8 = []) : TC Try.prog 68 o8 (frL' (fo8 8 nilV 2)) 1 (stL (s0' z)) .normal (frL' (fo8 8 nilV 3)) 1 (stL (s0' z)) := by
  rw [o8_eq]
  cases hz : eqb (z 5) 0 with
  | false => exact TC.seq (nilA2 z 8 ) (TC.seq (TC.block (TC.seq (nilB2 z 8 ) (TC.seq (nilI2 z 8) (nilD8_2_true_0 z (by rw [hz]; rfl)))) (.inl rfl)) (nilE2 z 8 ))
  | true => exact TC.seq (nilA2 z 8 ) (TC.seq (TC.block (TC.seq (nilB2 z 8 ) (TC.seq (nilI2 z 8) (nilD8_2_false_0 z (by rw [hz]; rfl)))) (.inl rfl)) (nilE2 z 8 ))
theorem nilD8_3_true_0 (z : Nat → Int) (h : (!eqb (z 7) 0) = true) : TC Try.prog 68 (sq2 (sq2 in8)) (frL' (fe8 8 nilV 3 0)) 1 (stL (s0' z)) .normal (frL' (fo8 8 nilV 3)) 1 (stL (s0' z)) := by
  have e : (oSt (ev8 [(0, true), (1, true), (2, true), (3, true)] [] 1 (sq2 (sq2 in8)) (fe8 8 nilV 3 0) (s0' z))).ok = okT [(!eqb (z 7) 0) == true, (!eqb (z 7) 0) == true, (!eqb (z 7) 0) == true, (!eqb (z 7) 0) == true] true := by kernel_rfl
  exact tc8 (φ := [(0, true), (1, true), (2, true), (3, true)]) (nils := []) (by kernel_rfl) (e.trans (by rw [h]; rfl)) ⟨by kernel_rfl, by kernel_rfl, by kernel_rfl, by kernel_rfl, trivial⟩ (by kernel_rfl) ⟨by kernel_rfl, trivial⟩
theorem nilD8_3_false_0 (z : Nat → Int) (h : (!eqb (z 7) 0) = false) : TC Try.prog 68 (sq2 (sq2 in8)) (frL' (fe8 8 nilV 3 0)) 1 (stL (s0' z)) .normal (frL' (fo8 8 nilV 3)) 1 (stL (s0' z)) := by
  have e : (oSt (ev8 [(0, false), (1, false), (2, false), (3, false)] [] 1 (sq2 (sq2 in8)) (fe8 8 nilV 3 0) (s0' z))).ok = okT [(!eqb (z 7) 0) == false, (!eqb (z 7) 0) == false, (!eqb (z 7) 0) == false, (!eqb (z 7) 0) == false] true := by kernel_rfl
  exact tc8 (φ := [(0, false), (1, false), (2, false), (3, false)]) (nils := []) (by kernel_rfl) (e.trans (by rw [h]; rfl)) ⟨by kernel_rfl, by kernel_rfl, by kernel_rfl, by kernel_rfl, trivial⟩ (by kernel_rfl) ⟨by kernel_rfl, trivial⟩
theorem nilR8_3 (z : Nat → Int) (hLe : resL z 8 = []) : TC Try.prog 68 o8 (frL' (fo8 8 nilV 3)) 1 (stL (s0' z)) .normal (frL' (fo8 8 nilV 4)) 1 (stL (s0' z)) := by
  rw [o8_eq]
  cases hz : eqb (z 7) 0 with
  | false => exact TC.seq (nilA3 z 8 ) (TC.seq (TC.block (TC.seq (nilB3 z 8 ) (TC.seq (nilI3 z 8) (nilD8_3_true_0 z (by rw [hz]; rfl)))) (.inl rfl)) (nilE3 z 8 ))
  | true => exact TC.seq (nilA3 z 8 ) (TC.seq (TC.block (TC.seq (nilB3 z 8 ) (TC.seq (nilI3 z 8) (nilD8_3_false_0 z (by rw [hz]; rfl)))) (.inl rfl)) (nilE3 z 8 ))
theorem nilD8_4_false_0 (z : Nat → Int) (h : (!eqb (z 9) 0) = false) : TC Try.prog 68 (sq2 (sq2 in8)) (frL' (fe8 8 nilV 4 0)) 1 (stL (s0' z)) .normal (frL' (fo8 8 nilV 4)) 1 (stL (s0' z)) := by
  have e : (oSt (ev8 [(0, false), (1, false), (2, false), (3, false)] [] 1 (sq2 (sq2 in8)) (fe8 8 nilV 4 0) (s0' z))).ok = okT [(!eqb (z 9) 0) == false, (!eqb (z 9) 0) == false, (!eqb (z 9) 0) == false, (!eqb (z 9) 0) == false] true := by kernel_rfl
  exact tc8 (φ := [(0, false), (1, false), (2, false), (3, false)]) (nils := []) (by kernel_rfl) (e.trans (by rw [h]; rfl)) ⟨by kernel_rfl, by kernel_rfl, by kernel_rfl, by kernel_rfl, trivial⟩ (by kernel_rfl) ⟨by kernel_rfl, trivial⟩
theorem nilR8_4 (z : Nat → Int) (hLe : resL z 8 = []) : TC Try.prog 68 o8 (frL' (fo8 8 nilV 4)) 1 (stL (s0' z)) .normal (frL' (fo8 8 nilV 5)) 1 (stL (s0' z)) := by
  rw [o8_eq]
  have hr := c8_4 z
  rw [hLe] at hr
  cases hz : eqb (z 9) 0 with
  | false => exact absurd (hr.2 hz) (by simp [ucnt])
  | true => exact TC.seq (nilA4 z 8 ) (TC.seq (TC.block (TC.seq (nilB4 z 8 ) (TC.seq (nilI4 z 8) (nilD8_4_false_0 z (by rw [hz]; rfl)))) (.inl rfl)) (nilE4 z 8 ))
theorem nilD8_5_true_0 (z : Nat → Int) (h : (!eqb (z 11) 0) = true) : TC Try.prog 68 (sq2 (sq2 in8)) (frL' (fe8 8 nilV 5 0)) 1 (stL (s0' z)) .normal (frL' (fo8 8 nilV 5)) 1 (stL (s0' z)) := by
  have e : (oSt (ev8 [(0, true), (1, true), (2, true), (3, true)] [] 1 (sq2 (sq2 in8)) (fe8 8 nilV 5 0) (s0' z))).ok = okT [(!eqb (z 11) 0) == true, (!eqb (z 11) 0) == true, (!eqb (z 11) 0) == true, (!eqb (z 11) 0) == true] true := by kernel_rfl
  exact tc8 (φ := [(0, true), (1, true), (2, true), (3, true)]) (nils := []) (by kernel_rfl) (e.trans (by rw [h]; rfl)) ⟨by kernel_rfl, by kernel_rfl, by kernel_rfl, by kernel_rfl, trivial⟩ (by kernel_rfl) ⟨by kernel_rfl, trivial⟩
theorem nilD8_5_false_0 (z : Nat → Int) (h : (!eqb (z 11) 0) = false) : TC Try.prog 68 (sq2 (sq2 in8)) (frL' (fe8 8 nilV 5 0)) 1 (stL (s0' z)) .normal (frL' (fo8 8 nilV 5)) 1 (stL (s0' z)) := by
  have e : (oSt (ev8 [(0, false), (1, false), (2, false), (3, false)] [] 1 (sq2 (sq2 in8)) (fe8 8 nilV 5 0) (s0' z))).ok = okT [(!eqb (z 11) 0) == false, (!eqb (z 11) 0) == false, (!eqb (z 11) 0) == false, (!eqb (z 11) 0) == false] true := by kernel_rfl
  exact tc8 (φ := [(0, false), (1, false), (2, false), (3, false)]) (nils := []) (by kernel_rfl) (e.trans (by rw [h]; rfl)) ⟨by kernel_rfl, by kernel_rfl, by kernel_rfl, by kernel_rfl, trivial⟩ (by kernel_rfl) ⟨by kernel_rfl, trivial⟩
theorem nilR8_5 (z : Nat → Int) (hLe : resL z 8 = []) : TC Try.prog 68 o8 (frL' (fo8 8 nilV 5)) 1 (stL (s0' z)) .normal (frL' (fo8 8 nilV 6)) 1 (stL (s0' z)) := by
  rw [o8_eq]
  cases hz : eqb (z 11) 0 with
  | false => exact TC.seq (nilA5 z 8 ) (TC.seq (TC.block (TC.seq (nilB5 z 8 ) (TC.seq (nilI5 z 8) (nilD8_5_true_0 z (by rw [hz]; rfl)))) (.inl rfl)) (nilE5 z 8 ))
  | true => exact TC.seq (nilA5 z 8 ) (TC.seq (TC.block (TC.seq (nilB5 z 8 ) (TC.seq (nilI5 z 8) (nilD8_5_false_0 z (by rw [hz]; rfl)))) (.inl rfl)) (nilE5 z 8 ))
theorem nilD8_6_true_0 (z : Nat → Int) (h : (!eqb (z 13) 0) = true) : TC Try.prog 68 (sq2 (sq2 in8)) (frL' (fe8 8 nilV 6 0)) 1 (stL (s0' z)) .normal (frL' (fo8 8 nilV 6)) 1 (stL (s0' z)) := by
  have e : (oSt (ev8 [(0, true), (1, true), (2, true), (3, true)] [] 1 (sq2 (sq2 in8)) (fe8 8 nilV 6 0) (s0' z))).ok = okT [(!eqb (z 13) 0) == true, (!eqb (z 13) 0) == true, (!eqb (z 13) 0) == true, (!eqb (z 13) 0) == true] true := by kernel_rfl
  exact tc8 (φ := [(0, true), (1, true), (2, true), (3, true)]) (nils := []) (by kernel_rfl) (e.trans (by rw [h]; rfl)) ⟨by kernel_rfl, by kernel_rfl, by kernel_rfl, by kernel_rfl, trivial⟩ (by kernel_rfl) ⟨by kernel_rfl, trivial⟩
theorem nilD8_6_false_0 (z : Nat → Int) (h : (!eqb (z 13) 0) = false) : TC Try.prog 68 (sq2 (sq2 in8)) (frL' (fe8 8 nilV 6 0)) 1 (stL (s0' z)) .normal (frL' (fo8 8 nilV 6)) 1 (stL (s0' z)) := by
  have e : (oSt (ev8 [(0, false), (1, false), (2, false), (3, false)] [] 1 (sq2 (sq2 in8)) (fe8 8 nilV 6 0) (s0' z))).ok = okT [(!eqb (z 13) 0) == false, (!eqb (z 13) 0) == false, (!eqb (z 13) 0) == false, (!eqb (z 13) 0) == false] true := by kernel_rfl
  exact tc8 (φ := [(0, false), (1, false), (2, false), (3, false)]) (nils := []) (by kernel_rfl) (e.trans (by rw [h]; rfl)) ⟨by kernel_rfl, by kernel_rfl, by kernel_rfl, by kernel_rfl, trivial⟩ (by kernel_rfl) ⟨by kernel_rfl, trivial⟩
theorem nilR8_6 (z : Nat → Int) (hLe : resL z 8 = []) : TC Try.prog 68 o8 (frL' (fo8 8 nilV 6)) 1 (stL (s0' z)) .normal (frL' (fo8 8 nilV 7)) 1 (stL (s0' z)) := by
  rw [o8_eq]
  cases hz : eqb (z 13) 0 with
  | false => exact TC.seq (nilA6 z 8 ) (TC.seq (TC.block (TC.seq (nilB6 z 8 ) (TC.seq (nilI6 z 8) (nilD8_6_true_0 z (by rw [hz]; rfl)))) (.inl rfl)) (nilE6 z 8 ))
  | true => exact TC.seq (nilA6 z 8 ) (TC.seq (TC.block (TC.seq (nilB6 z 8 ) (TC.seq (nilI6 z 8) (nilD8_6_false_0 z (by rw [hz]; rfl)))) (.inl rfl)) (nilE6 z 8 ))
theorem nilD8_7_true_0 (z : Nat → Int) (h : (!eqb (z 15) 0) = true) : TC Try.prog 68 (sq2 (sq2 in8)) (frL' (fe8 8 nilV 7 0)) 1 (stL (s0' z)) .normal (frL' (fo8 8 nilV 7)) 1 (stL (s0' z)) := by
  have e : (oSt (ev8 [(0, true), (1, true), (2, true), (3, true)] [] 1 (sq2 (sq2 in8)) (fe8 8 nilV 7 0) (s0' z))).ok = okT [(!eqb (z 15) 0) == true, (!eqb (z 15) 0) == true, (!eqb (z 15) 0) == true, (!eqb (z 15) 0) == true] true := by kernel_rfl
  exact tc8 (φ := [(0, true), (1, true), (2, true), (3, true)]) (nils := []) (by kernel_rfl) (e.trans (by rw [h]; rfl)) ⟨by kernel_rfl, by kernel_rfl, by kernel_rfl, by kernel_rfl, trivial⟩ (by kernel_rfl) ⟨by kernel_rfl, trivial⟩
theorem nilD8_7_false_0 (z : Nat → Int) (h : (!eqb (z 15) 0) = false) : TC Try.prog 68 (sq2 (sq2 in8)) (frL' (fe8 8 nilV 7 0)) 1 (stL (s0' z)) .normal (frL' (fo8 8 nilV 7)) 1 (stL (s0' z)) := by
  have e : (oSt (ev8 [(0, false), (1, false), (2, false), (3, false)] [] 1 (sq2 (sq2 in8)) (fe8 8 nilV 7 0) (s0' z))).ok = okT [(!eqb (z 15) 0) == false, (!eqb (z 15) 0) == false, (!eqb (z 15) 0) == false, (!eqb (z 15) 0) == false] true := by kernel_rfl
  exact tc8 (φ := [(0, false), (1, false), (2, false), (3, false)]) (nils := []) (by kernel_rfl) (e.trans (by rw [h]; rfl)) ⟨by kernel_rfl, by kernel_rfl, by kernel_rfl, by kernel_rfl, trivial⟩ (by kernel_rfl) ⟨by kernel_rfl, trivial⟩
theorem nilR8_7 (z : Nat → Int) (hLe : resL z 8 = []) : TC Try.prog 68 o8 (frL' (fo8 8 nilV 7)) 1 (stL (s0' z)) .normal (frL' (fo8 8 nilV 8)) 1 (stL (s0' z)) := by
  rw [o8_eq]
  cases hz : eqb (z 15) 0 with
  | false => exact TC.seq (nilA7 z 8 ) (TC.seq (TC.block (TC.seq (nilB7 z 8 ) (TC.seq (nilI7 z 8) (nilD8_7_true_0 z (by rw [hz]; rfl)))) (.inl rfl)) (nilE7 z 8 ))
  | true => exact TC.seq (nilA7 z 8 ) (TC.seq (TC.block (TC.seq (nilB7 z 8 ) (TC.seq (nilI7 z 8) (nilD8_7_false_0 z (by rw [hz]; rfl)))) (.inl rfl)) (nilE7 z 8 ))
theorem nilW8 (z : Nat → Int) (hLe : resL z 8 = []) : TC Try.prog 68 (.seq (.seq (sq1 (sq1 (sq2 out8))) (.block 0 (.loop o8))) (sq2 (sq2 out8))) (frL' [(1, .sc (.int .i64 8)), (2, .ptr 0 0), (5, nilV)]) 1 (stL (s0' z)) .ret (frL' [(4, .sc (.bool true))]) 1 (stL (s0' z)) :=
  TC.seq (TC.seq (nilS z 8 ) (TC.block (TC.loop (k := 9) (TR.more (nilR8_0 z hLe) (TR.more (nilR8_1 z hLe) (TR.more (nilR8_2 z hLe) (TR.more (nilR8_3 z hLe) (TR.more (nilR8_4 z hLe) (TR.more (nilR8_5 z hLe) (TR.more (nilR8_6 z hLe) (TR.more (nilR8_7 z hLe) (TR.out (nilX z 8 ) (by simp))))))))))) (.inr rfl))) (nilZ z )
theorem nilD9_0_true_0 (z : Nat → Int) (h : (!eqb (z 1) 0) = true) : TC Try.prog 68 (sq2 (sq2 in8)) (frL' (fe8 9 nilV 0 0)) 1 (stL (s0' z)) .normal (frL' (fo8 9 nilV 0)) 1 (stL (s0' z)) := by
  have e : (oSt (ev8 [(0, true), (1, true), (2, true), (3, true)] [] 1 (sq2 (sq2 in8)) (fe8 9 nilV 0 0) (s0' z))).ok = okT [(!eqb (z 1) 0) == true, (!eqb (z 1) 0) == true, (!eqb (z 1) 0) == true, (!eqb (z 1) 0) == true] true := by kernel_rfl
  exact tc8 (φ := [(0, true), (1, true), (2, true), (3, true)]) (nils := []) (by kernel_rfl) (e.trans (by rw [h]; rfl)) ⟨by kernel_rfl, by kernel_rfl, by kernel_rfl, by kernel_rfl, trivial⟩ (by kernel_rfl) ⟨by kernel_rfl, trivial⟩
theorem nilD9_0_false_0 (z : Nat → Int) (h : (!eqb (z 1) 0) = false) : TC Try.prog 68 (sq2 (sq2 in8)) (frL' (fe8 9 nilV 0 0)) 1 (stL (s0' z)) .normal (frL' (fo8 9 nilV 0)) 1 (stL (s0' z)) := by
  have e : (oSt (ev8 [(0, false), (1, false), (2, false), (3, false)] [] 1 (sq2 (sq2 in8)) (fe8 9 nilV 0 0) (s0' z))).ok = okT [(!eqb (z 1) 0) == false, (!eqb (z 1) 0) == false, (!eqb (z 1) 0) == false, (!eqb (z 1) 0) == false] true := by kernel_rfl
  exact tc8 (φ := [(0, false), (1, false), (2, false), (3, false)]) (nils := []) (by kernel_rfl) (e.trans (by rw [h]; rfl)) ⟨by kernel_rfl, by kernel_rfl, by kernel_rfl, by kernel_rfl, trivial⟩ (by kernel_rfl) ⟨by kernel_rfl, trivial⟩
theorem nilR9_0 (z : Nat → Int) (hLe : resL z 9 = []) : TC Try.prog 68 o8 (frL' (fo8 9 nilV 0)) 1 (stL (s0' z)) .normal (frL' (fo8 9 nilV 1)) 1 (stL (s0' z)) := by
  rw [o8_eq]
  cases hz : eqb (z 1) 0 with
  | false => exact TC.seq (nilA0 z 9 ) (TC.seq (TC.block (TC.seq (nilB0 z 9 ) (TC.seq (nilI0 z 9) (nilD9_0_true_0 z (by rw [hz]; rfl)))) (.inl rfl)) (nilE0 z 9 ))
  | true => exact TC.seq (nilA0 z 9 ) (TC.seq (TC.block (TC.seq (nilB0 z 9 ) (TC.seq (nilI0 z 9) (nilD9_0_false_0 z (by rw [hz]; rfl)))) (.inl rfl)) (nilE0 z 9 ))
theorem nilD9_1_true_0 (z : Nat → Int) (h : (!eqb (z 3) 0) = true) : TC Try.prog 68 (sq2 (sq2 in8)) (frL' (fe8 9 nilV 1 0)) 1 (stL (s0' z)) .normal (frL' (fo8 9 nilV 1)) 1 (stL (s0' z)) := by
  have e : (oSt (ev8 [(0, true), (1, true), (2, true), (3, true)] [] 1 (sq2 (sq2 in8)) (fe8 9 nilV 1 0) (s0' z))).ok = okT [(!eqb (z 3) 0) == true, (!eqb (z 3) 0) == true, (!eqb (z 3) 0) == true, (!eqb (z 3) 0) == true] true := by kernel_rfl
  exact tc8 (φ := [(0, true), (1, true), (2, true), (3, true)]) (nils := []) (by kernel_rfl) (e.trans (by rw [h]; rfl)) ⟨by kernel_rfl, by kernel_rfl, by kernel_rfl, by kernel_rfl, trivial⟩ (by kernel_rfl) ⟨by kernel_rfl, trivial⟩
theorem nilD9_1_false_0 (z : Nat → Int) (h : (!eqb (z 3) 0) = false) : TC Try.prog 68 (sq2 (sq2 in8)) (frL' (fe8 9 nilV 1 0)) 1 (stL (s0' z)) .normal (frL' (fo8 9 nilV 1)) 1 (stL (s0' z)) := by
  have e : (oSt (ev8 [(0, false), (1, false), (2, false), (3, false)] [] 1 (sq2 (sq2 in8)) (fe8 9 nilV 1 0) (s0' z))).ok = okT [(!eqb (z 3) 0) == false, (!eqb (z 3) 0) == false, (!eqb (z 3) 0) == false, (!eqb (z 3) 0) == false] true := by kernel_rfl
  exact tc8 (φ := [(0, false), (1, false), (2, false), (3, false)]) (nils := []) (by kernel_rfl) (e.trans (by rw [h]; rfl)) ⟨by kernel_rfl, by kernel_rfl, by kernel_rfl, by kernel_rfl, trivial⟩ (by kernel_rfl) ⟨by kernel_rfl, trivial⟩
theorem nilR9_1 (z : Nat → Int) (hLe : resL z 9 = []) : TC Try.prog 68 o8 (frL' (fo8 9 nilV 1)) 1 (stL (s0' z)) .normal (frL' (fo8 9 nilV 2)) 1 (stL (s0' z)) := by
  rw [o8_eq]
  cases hz : eqb (z 3) 0 with
  | false => exact TC.seq (nilA1 z 9 ) (TC.seq (TC.block (TC.seq (nilB1 z 9 ) (TC.seq (nilI1 z 9) (nilD9_1_true_0 z (by rw [hz]; rfl)))) (.inl rfl)) (nilE1 z 9 ))
  | true => exact TC.seq (nilA1 z 9 ) (TC.seq (TC.block (TC.seq (nilB1 z 9 ) (TC.seq (nilI1 z 9) (nilD9_1_false_0 z (by rw [hz]; rfl)))) (.inl rfl)) (nilE1 z 9 ))
theorem nilD9_2_true_0 (z : Nat → Int) (h : (!eqb (z 5) 0) = true) : TC Try.prog 68 (sq2 (sq2 in8)) (frL' (fe8 9 nilV 2 0)) 1 (stL (s0' z)) .normal (frL' (fo8 9 nilV 2)) 1 (stL (s0' z)) := by
  have e : (oSt (ev8 [(0, true), (1, true), (2, true), (3, true)] [] 1 (sq2 (sq2 in8)) (fe8 9 nilV 2 0) (s0' z))).ok = okT [(!eqb (z 5) 0) == true, (!eqb (z 5) 0) == true, (!eqb (z 5) 0) == true, (!eqb (z 5) 0) == true] true := by kernel_rfl
  exact tc8 (φ := [(0, true), (1, true), (2, true), (3, true)]) (nils := []) (by kernel_rfl) (e.trans (by rw [h]; rfl)) ⟨by kernel_rfl, by kernel_rfl, by kernel_rfl, by kernel_rfl, trivial⟩ (by kernel_rfl) ⟨by kernel_rfl, trivial⟩
theorem nilD9_2_false_0 (z : Nat → Int) (h : (!eqb (z 5) 0) = false) : TC Try.prog 68 (sq2 (sq2 in8)) (frL' (fe8 9 nilV 2 0)) 1 (stL (s0' z)) .normal (frL' (fo8 9 nilV 2)) 1 (stL (s0' z)) := by
  have e : (oSt (ev8 [(0, false), (1, false), (2, false), (3, false)] [] 1 (sq2 (sq2 in8)) (fe8 9 nilV 2 0) (s0' z))).ok = okT [(!eqb (z 5) 0) == false, (!eqb (z 5) 0) == false, (!eqb (z 5) 0) == false, (!eqb (z 5) 0) == false] true := by kernel_rfl
  exact tc8 (φ := [(0, false), (1, false), (2, false), (3, false)]) (nils := []) (by kernel_rfl) (e.trans (by rw [h]; rfl)) ⟨by kernel_rfl, by kernel_rfl, by kernel_rfl, by kernel_rfl, trivial⟩ (by kernel_rfl) ⟨by kernel_rfl, trivial⟩
theorem nilR9_2 (z : Nat → Int) (hLe : resL z 9 = []) : TC Try.prog 68 o8 (frL' (fo8 9 nilV 2)) 1 (stL (s0' z)) .normal (frL' (fo8 9 nilV 3)) 1 (stL (s0' z)) := by
  rw [o8_eq]
  cases hz : eqb (z 5) 0 with
  | false => exact TC.seq (nilA2 z 9 ) (TC.seq (TC.block (TC.seq (nilB2 z 9 ) (TC.seq (nilI2 z 9) (nilD9_2_true_0 z (by rw [hz]; rfl)))) (.inl rfl)) (nilE2 z 9 ))
  | true => exact TC.seq (nilA2 z 9 ) (TC.seq (TC.block (TC.seq (nilB2 z 9 ) (TC.seq (nilI2 z 9) (nilD9_2_false_0 z (by rw [hz]; rfl)))) (.inl rfl)) (nilE2 z 9 ))
theorem nilD9_3_true_0 (z : Nat → Int) (h : (!eqb (z 7) 0) = true) : TC Try.prog 68 (sq2 (sq2 in8)) (frL' (fe8 9 nilV 3 0)) 1 (stL (s0' z)) .normal (frL' (fo8 9 nilV 3)) 1 (stL (s0' z)) := by
  have e : (oSt (ev8 [(0, true), (1, true), (2, true), (3, true)] [] 1 (sq2 (sq2 in8)) (fe8 9 nilV 3 0) (s0' z))).ok = okT [(!eqb (z 7) 0) == true, (!eqb (z 7) 0) == true, (!eqb (z 7) 0) == true, (!eqb (z 7) 0) == true] true := by kernel_rfl
  exact tc8 (φ := [(0, true), (1, true), (2, true), (3, true)]) (nils := []) (by kernel_rfl) (e.trans (by rw [h]; rfl)) ⟨by kernel_rfl, by kernel_rfl, by kernel_rfl, by kernel_rfl, trivial⟩ (by kernel_rfl) ⟨by kernel_rfl, trivial⟩
theorem nilD9_3_false_0 (z : Nat → Int) (h : (!eqb (z 7) 0) = false) : TC Try.prog 68 (sq2 (sq2 in8)) (frL' (fe8 9 nilV 3 0)) 1 (stL (s0' z)) .normal (frL' (fo8 9 nilV 3)) 1 (stL (s0' z)) := by
  have e : (oSt (ev8 [(0, false), (1, false), (2, false), (3, false)] [] 1 (sq2 (sq2 in8)) (fe8 9 nilV 3 0) (s0' z))).ok = okT [(!eqb (z 7) 0) == false, (!eqb (z 7) 0) == false, (!eqb (z 7) 0) == false, (!eqb (z 7) 0) == false] true := by kernel_rfl
  exact tc8 (φ := [(0, false), (1, false), (2, false), (3, false)]) (nils := []) (by kernel_rfl) (e.trans (by rw [h]; rfl)) ⟨by kernel_rfl, by kernel_rfl, by kernel_rfl, by kernel_rfl, trivial⟩ (by kernel_rfl) ⟨by kernel_rfl, trivial⟩
theorem nilR9_3 (z : Nat → Int) (hLe : resL z 9 = []) : TC Try.prog 68 o8 (frL' (fo8 9 nilV 3)) 1 (stL (s0' z)) .normal (frL' (fo8 9 nilV 4)) 1 (stL (s0' z)) := by
  rw [o8_eq]
  cases hz : eqb (z 7) 0 with
  | false => exact TC.seq (nilA3 z 9 ) (TC.seq (TC.block (TC.seq (nilB3 z 9 ) (TC.seq (nilI3 z 9) (nilD9_3_true_0 z (by rw [hz]; rfl)))) (.inl rfl)) (nilE3 z 9 ))
  | true => exact TC.seq (nilA3 z 9 ) (TC.seq (TC.block (TC.seq (nilB3 z 9 ) (TC.seq (nilI3 z 9) (nilD9_3_false_0 z (by rw [hz]; rfl)))) (.inl rfl)) (nilE3 z 9 ))
theorem nilD9_4_false_0 (z : Nat → Int) (h : (!eqb (z 9) 0) = false) : TC Try.prog 68 (sq2 (sq2 in8)) (frL' (fe8 9 nilV 4 0)) 1 (stL (s0' z)) .normal (frL' (fo8 9 nilV 4)) 1 (stL (s0' z)) := by
  have e : (oSt (ev8 [(0, false), (1, false), (2, false), (3, false)] [] 1 (sq2 (sq2 in8)) (fe8 9 nilV 4 0) (s0' z))).ok = okT [(!eqb (z 9) 0) == false, (!eqb (z 9) 0) == false, (!eqb (z 9) 0) == false, (!eqb (z 9) 0) == false] true := by kernel_rfl
  exact tc8 (φ := [(0, false), (1, false), (2, false), (3, false)]) (nils := []) (by kernel_rfl) (e.trans (by rw [h]; rfl)) ⟨by kernel_rfl, by kernel_rfl, by kernel_rfl, by kernel_rfl, trivial⟩ (by kernel_rfl) ⟨by kernel_rfl, trivial⟩
theorem nilR9_4 (z : Nat → Int) (hLe : resL z 9 = []) : TC Try.prog 68 o8 (frL' (fo8 9 nilV 4)) 1 (stL (s0' z)) .normal (frL' (fo8 9 nilV 5)) 1 (stL (s0' z)) := by
  rw [o8_eq]
  have hr := c9_4 z
  rw [hLe] at hr
  cases hz : eqb (z 9) 0 with
  | false => exact absurd (hr.2 hz) (by simp [ucnt])
  | true => exact TC.seq (nilA4 z 9 ) (TC.seq (TC.block (TC.seq (nilB4 z 9 ) (TC.seq (nilI4 z 9) (nilD9_4_false_0 z (by rw [hz]; rfl)))) (.inl rfl)) (nilE4 z 9 ))
theorem nilD9_5_false_0 (z : Nat → Int) (h : (!eqb (z 11) 0) = false) : TC Try.prog 68 (sq2 (sq2 in8)) (frL' (fe8 9 nilV 5 0)) 1 (stL (s0' z)) .normal (frL' (fo8 9 nilV 5)) 1 (stL (s0' z)) := by
  have e : (oSt (ev8 [(0, false), (1, false), (2, false), (3, false)] [] 1 (sq2 (sq2 in8)) (fe8 9 nilV 5 0) (s0' z))).ok = okT [(!eqb (z 11) 0) == false, (!eqb (z 11) 0) == false, (!eqb (z 11) 0) == false, (!eqb (z 11) 0) == false] true := by kernel_rfl
  exact tc8 (φ := [(0, false), (1, false), (2, false), (3, false)]) (nils := []) (by kernel_rfl) (e.trans (by rw [h]; rfl)) ⟨by kernel_rfl, by kernel_rfl, by kernel_rfl, by kernel_rfl, trivial⟩ (by kernel_rfl) ⟨by kernel_rfl, trivial⟩
theorem nilR9_5 (z : Nat → Int) (hLe : resL z 9 = []) : TC Try.prog 68 o8 (frL' (fo8 9 nilV 5)) 1 (stL (s0' z)) .normal (frL' (fo8 9 nilV 6)) 1 (stL (s0' z)) := by
  rw [o8_eq]
  have hr := c9_5 z
  rw [hLe] at hr
  cases hz : eqb (z 11) 0 with
  | false => exact absurd (hr.2 hz) (by simp [ucnt])
  | true => exact TC.seq (nilA5 z 9 ) (TC.seq (TC.block (TC.seq (nilB5 z 9 ) (TC.seq (nilI5 z 9) (nilD9_5_false_0 z (by rw [hz]; rfl)))) (.inl rfl)) (nilE5 z 9 ))
theorem nilD9_6_true_0 (z : Nat → Int) (h : (!eqb (z 13) 0) = true) : TC Try.prog 68 (sq2 (sq2 in8)) (frL' (fe8 9 nilV 6 0)) 1 (stL (s0' z)) .normal (frL' (fo8 9 nilV 6)) 1 (stL (s0' z)) := by
  have e : (oSt (ev8 [(0, true), (1, true), (2, true), (3, true)] [] 1 (sq2 (sq2 in8)) (fe8 9 nilV 6 0) (s0' z))).ok = okT [(!eqb (z 13) 0) == true, (!eqb (z 13) 0) == true, (!eqb (z 13) 0) == true, (!eqb (z 13) 0) == true] true := by kernel_rfl
  exact tc8 (φ := [(0, true), (1, true), (2, true), (3, true)]) (nils := []) (by kernel_rfl) (e.trans (by rw [h]; rfl)) ⟨by kernel_rfl, by kernel_rfl, by kernel_rfl, by kernel_rfl, trivial⟩ (by kernel_rfl) ⟨by kernel_rfl, trivial⟩
theorem nilD9_6_false_0 (z : Nat → Int) (h : (!eqb (z 13) 0) = false) : TC Try.prog 68 (sq2 (sq2 in8)) (frL' (fe8 9 nilV 6 0)) 1 (stL (s0' z)) .normal (frL' (fo8 9 nilV 6)) 1 (stL (s0' z)) := by
  have e : (oSt (ev8 [(0, false), (1, false), (2, false), (3, false)] [] 1 (sq2 (sq2 in8)) (fe8 9 nilV 6 0) (s0' z))).ok = okT [(!eqb (z 13) 0) == false, (!eqb (z 13) 0) == false, (!eqb (z 13) 0) == false, (!eqb (z 13) 0) == false] true := by kernel_rfl
  exact tc8 (φ := [(0, false), (1, false), (2, false), (3, false)]) (nils := []) (by kernel_rfl) (e.trans (by rw [h]; rfl)) ⟨by kernel_rfl, by kernel_rfl, by kernel_rfl, by kernel_rfl, trivial⟩ (by kernel_rfl) ⟨by kernel_rfl, trivial⟩
theorem nilR9_6 (z : Nat → Int) (hLe : resL z 9 = []) : TC Try.prog 68 o8 (frL' (fo8 9 nilV 6)) 1 (stL (s0' z)) .normal (frL' (fo8 9 nilV 7)) 1 (stL (s0' z)) := by
  rw [o8_eq]
  cases hz : eqb (z 13) 0 with
  | false => exact TC.seq (nilA6 z 9 ) (TC.seq (TC.block (TC.seq (nilB6 z 9 ) (TC.seq (nilI6 z 9) (nilD9_6_true_0 z (by rw [hz]; rfl)))) (.inl rfl)) (nilE6 z 9 ))
  | true => exact TC.seq (nilA6 z 9 ) (TC.seq (TC.block (TC.seq (nilB6 z 9 ) (TC.seq (nilI6 z 9) (nilD9_6_false_0 z (by rw [hz]; rfl)))) (.inl rfl)) (nilE6 z 9 ))
theorem nilD9_7_true_0 (z : Nat → Int) (h : (!eqb (z 15) 0) = true) : TC Try.prog 68 (sq2 (sq2 in8)) (frL' (fe8 9 nilV 7 0)) 1 (stL (s0' z)) .normal (frL' (fo8 9 nilV 7)) 1 (stL (s0' z)) := by
  have e : (oSt (ev8 [(0, true), (1, true), (2, true), (3, true)] [] 1 (sq2 (sq2 in8)) (fe8 9 nilV 7 0) (s0' z))).ok = okT [(!eqb (z 15) 0) == true, (!eqb (z 15) 0) == true, (!eqb (z 15) 0) == true, (!eqb (z 15) 0) == true] true := by kernel_rfl
  exact tc8 (φ := [(0, true), (1, true), (2, true), (3, true)]) (nils := []) (by kernel_rfl) (e.trans (by rw [h]; rfl)) ⟨by kernel_rfl, by kernel_rfl, by kernel_rfl, by kernel_rfl, trivial⟩ (by kernel_rfl) ⟨by kernel_rfl, trivial⟩
theorem nilD9_7_false_0 (z : Nat → Int) (h : (!eqb (z 15) 0) = false) : TC Try.prog 68 (sq2 (sq2 in8)) (frL' (fe8 9 nilV 7 0)) 1 (stL (s0' z)) .normal (frL' (fo8 9 nilV 7)) 1 (stL (s0' z)) := by
  have e : (oSt (ev8 [(0, false), (1, false), (2, false), (3, false)] [] 1 (sq2 (sq2 in8)) (fe8 9 nilV 7 0) (s0' z))).ok = okT [(!eqb (z 15) 0) == false, (!eqb (z 15) 0) == false, (!eqb (z 15) 0) == false, (!eqb (z 15) 0) == false] true := by kernel_rfl
  exact tc8 (φ := [(0, false), (1, false), (2, false), (3, false)]) (nils := []) (by kernel_rfl) (e.trans (by rw [h]; rfl)) ⟨by kernel_rfl, by kernel_rfl, by kernel_rfl, by kernel_rfl, trivial⟩ (by kernel_rfl) ⟨by kernel_rfl, trivial⟩
end Go.Proofs.Ytnklnboglijcbaa.D
