/- A number and P less it are never both public keys. Conditions: none beyond the statement's own. -/
import Derived.Test.YtongkjihhkgpnabPPowerTurnedx2
import Derived.Test.YtongkjihhkgpnabPowMath
namespace Go.Proofs.Ytongkjihhkgpnab.Pure
open Go.RowKit Go.Proofs.Ytongkjihhkgpnab.PPowerTurned Go.Proofs.Ytongkjihhkgpnab.PM Go.Proofs.YtongkjihhkgpnabW.PrintWords Go.Proofs.YtongkjihhkgpnabW.PrintLast
set_option linter.unusedSimpArgs false
set_option linter.unusedVariables false

theorem power_isNumber_tells (a : Int) : power_isNumber.f a = some (decide (0 ≤ a ∧ a < 2147483579)) := by
  unfold power_isNumber.f
  by_cases h : a ≥ 0
  · rw [if_pos h]; congr 1; have h' : 0 ≤ a := h; simp [h']
  · rw [if_neg h]; congr 1; have h' : ¬ (0 ≤ a) := h; simp [h']

theorem power_Mul_tells (a b : Int) : power_Mul.f a b = some (gMul a b) := by
  unfold power_Mul.f
  rw [power_isNumber_tells, power_isNumber_tells]
  simp only [Option.bind_some, decide_eq_true_eq]
  by_cases h : 0 ≤ a ∧ a < 2147483579
  · by_cases g : 0 ≤ b ∧ b < 2147483579
    · rw [if_pos h, if_pos g, mul_wrap a b h.1 h.2 g.1 g.2, gMul_in h.1 h.2 g.1 g.2]
    · rw [if_pos h, if_neg g]; unfold gMul; rw [if_neg (fun x => g x.2)]
  · rw [if_neg h]; unfold gMul; rw [if_neg (fun x => h x.1)]

theorem power_Pow_loop : ∀ (d k : Nat) (b e n : Int), 0 ≤ b → b < 2147483579 → 0 ≤ n → n < 2147483579 → 0 ≤ e → e < 2 ^ d → d ≤ 60 → d < k → power_Pow.l0 k b e n = some (n * b ^ e.toNat % 2147483579)
  | 0, k, b, e, n, hb0, hb1, hn0, hn1, he0, he1, hd, hk => by
    obtain ⟨k, rfl⟩ : ∃ m, k = m + 1 := ⟨k - 1, by omega⟩
    obtain rfl : e = 0 := by simp at he1; omega
    simp only [power_Pow.l0]; rw [if_neg (by decide)]
    rw [show (0 : Int).toNat = 0 from rfl, Int.pow_zero, Int.mul_one, Int.emod_eq_of_lt hn0 hn1]
  | d + 1, k, b, e, n, hb0, hb1, hn0, hn1, he0, he1, hd, hk => by
    obtain ⟨k, rfl⟩ : ∃ m, k = m + 1 := ⟨k - 1, by omega⟩
    have h62 : e < 2 ^ 62 := Int.lt_of_lt_of_le he1 (by exact_mod_cast Nat.pow_le_pow_right (show 0 < 2 by decide) (show d + 1 ≤ 62 by omega))
    simp only [power_Pow.l0]
    by_cases h : e > 0
    · rw [if_pos h, and_one64 e he0 h62, power_Mul_tells, power_Mul_tells]
      simp only [Option.bind_some]
      rw [gMul_in hb0 hb1 hb0 hb1, gMul_in hn0 hn1 hb0 hb1]
      have hb0' : 0 ≤ b * b % 2147483579 := Int.emod_nonneg _ (by decide)
      have hb1' : b * b % 2147483579 < 2147483579 := Int.emod_lt_of_pos _ (by decide)
      have hn0' : 0 ≤ n * b % 2147483579 := Int.emod_nonneg _ (by decide)
      have hn1' : n * b % 2147483579 < 2147483579 := Int.emod_lt_of_pos _ (by decide)
      have he' : e / 2 < 2 ^ d := by rw [Int.pow_succ] at he1; omega
      have hs := sq_step b n e.toNat
      have ht : (e / 2).toNat = e.toNat / 2 := by omega
      by_cases g : e % 2 = 1
      · rw [if_pos g, power_Pow_loop d k _ _ _ hb0' hb1' hn0' hn1' (by omega) he' (by omega) (by omega), hs, if_pos (by omega), ht]
      · rw [if_neg g, power_Pow_loop d k _ _ _ hb0' hb1' hn0 hn1 (by omega) he' (by omega) (by omega), hs, if_neg (by omega), ht]
    · obtain rfl : e = 0 := by omega
      rw [if_neg h, show (0 : Int).toNat = 0 from rfl, Int.pow_zero, Int.mul_one, Int.emod_eq_of_lt hn0 hn1]
theorem power_Pow_tells (k : Nat) (hk : 40 ≤ k) (b e : Int) : power_Pow.f k b e = some (gPow b e) := by
  obtain ⟨k, rfl⟩ : ∃ m, k = m + 1 := ⟨k - 1, by omega⟩
  unfold power_Pow.f
  rw [power_isNumber_tells]
  simp only [Option.bind_some, decide_eq_true_eq]
  by_cases h : 0 ≤ b ∧ b < 2147483579
  · rw [if_pos h]
    by_cases g : e < 0
    · rw [if_pos g]; simp only [power_Pow.j0, if_true]; unfold gPow; rw [if_neg (fun x => by omega)]
    · rw [if_neg g]
      simp only [power_Pow.j0, decide_eq_true_eq]
      by_cases m : e > 1073741789
      · rw [if_pos m]; unfold gPow; rw [if_neg (fun x => by omega)]
      · rw [if_neg m, power_Pow_loop 30 k b e 1 h.1 h.2 (by decide) (by decide) (by omega) (Int.lt_of_le_of_lt (show e ≤ 1073741789 by omega) (by decide)) (by decide) (by omega), gPow_in h.1 h.2 (by omega) (by omega), Int.one_mul]; rfl
  · rw [if_neg h]; simp only [power_Pow.j0, if_true]; unfold gPow; rw [if_neg (fun x => h x.1)]

theorem power_Is_tells (k : Nat) (hk : 40 ≤ k) (y : Int) : power_Is.f k y = some (gIs y) := by
  rw [gIs_pw]; unfold power_Is.f
  by_cases h : y > 1
  · rw [if_pos h]
    by_cases g : y < 2147483579
    · rw [if_pos g, power_Pow_tells k hk]; simp only [Option.bind_some]
      rw [gPow_Q (by omega) g]
      have h' : 1 < y := h
      simp only [h', g, true_and]; congr 1
    · rw [if_neg g]; simp [g]
  · rw [if_neg h]; have h' : ¬ (1 < y) := h; simp [h']

theorem curiaref2_in_tells (a : Int) : curiaref2_in.f a = some (decide (0 ≤ a ∧ a < 2147483579)) := by
  unfold curiaref2_in.f
  by_cases h : a ≥ 0
  · rw [if_pos h]; congr 1; have h' : 0 ≤ a := h; simp [h']
  · rw [if_neg h]; congr 1; have h' : ¬ (0 ≤ a) := h; simp [h']

theorem curiaref2_Mul_tells (a b : Int) : curiaref2_Mul.f a b = some (gMul a b) := by
  unfold curiaref2_Mul.f
  rw [curiaref2_in_tells, curiaref2_in_tells]
  simp only [Option.bind_some, decide_eq_true_eq]
  by_cases h : 0 ≤ a ∧ a < 2147483579
  · by_cases g : 0 ≤ b ∧ b < 2147483579
    · rw [if_pos h, if_pos g, mul_wrap a b h.1 h.2 g.1 g.2, gMul_in h.1 h.2 g.1 g.2]
    · rw [if_pos h, if_neg g]; unfold gMul; rw [if_neg (fun x => g x.2)]
  · rw [if_neg h]; unfold gMul; rw [if_neg (fun x => h x.1)]

theorem curiaref2_Pow_loop : ∀ (d k : Nat) (b e n : Int), 0 ≤ b → b < 2147483579 → 0 ≤ n → n < 2147483579 → 0 ≤ e → e < 2 ^ d → d ≤ 60 → d < k → curiaref2_Pow.l0 k b e n = some (n * b ^ e.toNat % 2147483579)
  | 0, k, b, e, n, hb0, hb1, hn0, hn1, he0, he1, hd, hk => by
    obtain ⟨k, rfl⟩ : ∃ m, k = m + 1 := ⟨k - 1, by omega⟩
    obtain rfl : e = 0 := by simp at he1; omega
    simp only [curiaref2_Pow.l0]; rw [if_neg (by decide)]
    rw [show (0 : Int).toNat = 0 from rfl, Int.pow_zero, Int.mul_one, Int.emod_eq_of_lt hn0 hn1]
  | d + 1, k, b, e, n, hb0, hb1, hn0, hn1, he0, he1, hd, hk => by
    obtain ⟨k, rfl⟩ : ∃ m, k = m + 1 := ⟨k - 1, by omega⟩
    have h62 : e < 2 ^ 62 := Int.lt_of_lt_of_le he1 (by exact_mod_cast Nat.pow_le_pow_right (show 0 < 2 by decide) (show d + 1 ≤ 62 by omega))
    simp only [curiaref2_Pow.l0]
    by_cases h : e > 0
    · rw [if_pos h, and_one64 e he0 h62, curiaref2_Mul_tells, curiaref2_Mul_tells]
      simp only [Option.bind_some]
      rw [gMul_in hb0 hb1 hb0 hb1, gMul_in hn0 hn1 hb0 hb1]
      have hb0' : 0 ≤ b * b % 2147483579 := Int.emod_nonneg _ (by decide)
      have hb1' : b * b % 2147483579 < 2147483579 := Int.emod_lt_of_pos _ (by decide)
      have hn0' : 0 ≤ n * b % 2147483579 := Int.emod_nonneg _ (by decide)
      have hn1' : n * b % 2147483579 < 2147483579 := Int.emod_lt_of_pos _ (by decide)
      have he' : e / 2 < 2 ^ d := by rw [Int.pow_succ] at he1; omega
      have hs := sq_step b n e.toNat
      have ht : (e / 2).toNat = e.toNat / 2 := by omega
      by_cases g : e % 2 = 1
      · rw [if_pos g, curiaref2_Pow_loop d k _ _ _ hb0' hb1' hn0' hn1' (by omega) he' (by omega) (by omega), hs, if_pos (by omega), ht]
      · rw [if_neg g, curiaref2_Pow_loop d k _ _ _ hb0' hb1' hn0 hn1 (by omega) he' (by omega) (by omega), hs, if_neg (by omega), ht]
    · obtain rfl : e = 0 := by omega
      rw [if_neg h, show (0 : Int).toNat = 0 from rfl, Int.pow_zero, Int.mul_one, Int.emod_eq_of_lt hn0 hn1]
theorem curiaref2_Pow_tells (k : Nat) (hk : 40 ≤ k) (b e : Int) : curiaref2_Pow.f k b e = some (gPow b e) := by
  obtain ⟨k, rfl⟩ : ∃ m, k = m + 1 := ⟨k - 1, by omega⟩
  unfold curiaref2_Pow.f
  rw [curiaref2_in_tells]
  simp only [Option.bind_some, decide_eq_true_eq]
  by_cases h : 0 ≤ b ∧ b < 2147483579
  · rw [if_pos h]
    by_cases g : e < 0
    · rw [if_pos g]; simp only [curiaref2_Pow.j0, if_true]; unfold gPow; rw [if_neg (fun x => by omega)]
    · rw [if_neg g]
      simp only [curiaref2_Pow.j0, decide_eq_true_eq]
      by_cases m : e > 1073741789
      · rw [if_pos m]; unfold gPow; rw [if_neg (fun x => by omega)]
      · rw [if_neg m, curiaref2_Pow_loop 30 k b e 1 h.1 h.2 (by decide) (by decide) (by omega) (Int.lt_of_le_of_lt (show e ≤ 1073741789 by omega) (by decide)) (by decide) (by omega), gPow_in h.1 h.2 (by omega) (by omega), Int.one_mul]; rfl
  · rw [if_neg h]; simp only [curiaref2_Pow.j0, if_true]; unfold gPow; rw [if_neg (fun x => h x.1)]

theorem known_tells (k : Nat) (hk : 40 ≤ k) : curialaw2_known.f k = some true := by
  unfold curialaw2_known.f
  simp only [power_Pow_tells k hk, power_Is_tells k hk, power_Mul_tells, Option.bind_some]
  have h1 : gPow 4 3 = 64 := by decide
  have h2 : gIs 4 = true := gIs_four
  have h3 : gIs 1 = false := gIs_no (fun h => absurd h.1 (by decide))
  have h4 : gMul 2147483578 2147483578 = 1 := by decide
  simp only [h1, h2, h3, h4, if_true, Bool.false_eq_true, if_false, beq_self_eq_true]

theorem PowerTurned : curialaw2_PowerTurned.Pure := by
  intro e _
  refine ⟨43, ?_⟩
  unfold curialaw2_PowerTurned.f
  simp only [curialaw2_PowerTurned.j0]
  simp only [power_Mul_tells, curiaref2_Mul_tells, power_Pow_tells 40 (by decide), power_Pow_tells 41 (by decide), power_Pow_tells 42 (by decide), power_Pow_tells 43 (by decide), power_Is_tells 40 (by decide), power_Is_tells 41 (by decide), power_Is_tells 42 (by decide), power_Is_tells 43 (by decide), curiaref2_Pow_tells 40 (by decide), curiaref2_Pow_tells 41 (by decide), curiaref2_Pow_tells 42 (by decide), curiaref2_Pow_tells 43 (by decide), known_tells 40 (by decide), known_tells 41 (by decide), known_tells 42 (by decide), known_tells 43 (by decide), Option.bind_some, decide_eq_true_eq, if_true, eq_self, Bool.false_eq_true, if_false]
  by_cases hin : 1 ≤ e ∧ e < 1073741789
  · obtain ⟨h1, h2⟩ := hin
    have e1 : gPow 4 e = pw 4 e.toNat := gPow_in (by decide) (by decide) (by omega) (by omega)
    have g0 := pw_nonneg 4 e.toNat
    have g1 := pw_lt 4 e.toNat
    have g2 := four_gt e.toNat (by omega) (by omega)
    have g3 := four_round e.toNat
    rw [e1]
    clear e1
    revert g0 g1 g2 g3
    generalize pw 4 e.toNat = y
    intro g0 g1 g2 g3
    have w1 : wrap64 (2147483579 - y) = 2147483579 - y := by unfold wrap64; omega
    have t := pw_turned y 1073741789 g3 (by decide)
    have i1 : gIs y = true := gIs_yes g2 g1 g3
    have i2 : gIs (2147483579 - y) = false := gIs_no (fun h => by rw [t] at h; exact absurd h.2.2 (by decide))
    have e4 : gPow (2147483579 - y) 1073741789 = 2147483578 := by rw [gPow_Q (by omega) (by omega)]; exact t
    clear g3 t
    simp only [w1, i1, i2, e4, if_true, Bool.false_eq_true, if_false]
    repeat' (first | rfl | (exfalso; omega) | split)
  ·
    repeat' (first | rfl | (exfalso; omega) | split)

end Go.Proofs.Ytongkjihhkgpnab.Pure
