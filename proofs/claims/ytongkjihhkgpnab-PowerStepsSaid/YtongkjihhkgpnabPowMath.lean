/- Numbers round the prime P: powers add, powers of powers multiply, the order of 4 is the prime Q. Plain Lean, no program. -/
import Derived.Laws.BitsLemmas
import Derived.RowKit
namespace Go.Proofs.Ytongkjihhkgpnab.PM
open Go Go.RowKit

/-- b to the e, round the prime. -/
def pw (b : Int) (e : Nat) : Int := b ^ e % 2147483579

theorem pw_nonneg (b : Int) (e : Nat) : 0 ≤ pw b e := Int.emod_nonneg _ (by decide)
theorem pw_lt (b : Int) (e : Nat) : pw b e < 2147483579 := Int.emod_lt_of_pos _ (by decide)
theorem pw_zero (b : Int) : pw b 0 = 1 := by unfold pw; rw [Int.pow_zero]; decide
theorem pw_add (b : Int) (d e : Nat) : pw b d * pw b e % 2147483579 = pw b (d + e) := by
  unfold pw; rw [Int.pow_add, ← Int.mul_emod]
theorem pw_succ (b : Int) (e : Nat) : pw b (e + 1) = pw b e * b % 2147483579 := by
  unfold pw; rw [Int.pow_succ, Int.mul_emod (b ^ e) b, Int.mul_emod (b ^ e % 2147483579) b, Int.emod_emod_of_dvd _ (Int.dvd_refl _)]
theorem pw_one (b : Int) (h0 : 0 ≤ b) (h1 : b < 2147483579) : pw b 1 = b := by
  unfold pw; rw [Int.pow_succ, Int.pow_zero, Int.one_mul]; exact Int.emod_eq_of_lt h0 h1
theorem pw_red (b : Int) (e : Nat) : pw (b % 2147483579) e = pw b e := by
  induction e with
  | zero => rw [pw_zero, pw_zero]
  | succ e ih => rw [pw_succ, pw_succ, ih]; rw [Int.mul_emod, Int.emod_emod_of_dvd _ (Int.dvd_refl _), ← Int.mul_emod]
theorem pw_pw (b : Int) (d e : Nat) : pw (pw b d) e = pw b (d * e) := by
  show pw (b ^ d % 2147483579) e = _
  rw [pw_red]; unfold pw; rw [Int.pow_mul]
theorem pw_base_one (e : Nat) : pw 1 e = 1 := by unfold pw; rw [Int.one_pow]; decide
theorem pw_base_zero (e : Nat) (h : 0 < e) : pw 0 e = 0 := by
  obtain ⟨m, rfl⟩ : ∃ m, e = m + 1 := ⟨e - 1, by omega⟩
  rw [pw_succ]; simp

/-- the same by squaring: what can be worked out. -/
def pl : Nat → Int → Nat → Int → Int
  | 0, _, _, n => n
  | k + 1, b, e, n => pl k (b * b % 2147483579) (e / 2) (if e % 2 = 1 then n * b % 2147483579 else n)

theorem sq_step (b n : Int) (e : Nat) : n * b ^ e % 2147483579 = (if e % 2 = 1 then n * b % 2147483579 else n) * (b * b % 2147483579) ^ (e / 2) % 2147483579 := by
  have h2 : ∀ m : Nat, (b * b % 2147483579) ^ m % 2147483579 = b ^ (2 * m) % 2147483579 := by
    intro m
    have := pw_red (b * b) m
    unfold pw at this
    rw [this, Int.pow_mul]; congr 2; rw [show (2 : Nat) = 1 + 1 from rfl, Int.pow_succ, Int.pow_succ, Int.pow_zero, Int.one_mul]
  by_cases h : e % 2 = 1
  · rw [if_pos h, Int.mul_emod (n * b % 2147483579), h2, Int.emod_emod_of_dvd _ (Int.dvd_refl _), ← Int.mul_emod, Int.mul_assoc]
    congr 2
    rw [show e = 2 * (e / 2) + 1 by omega, Int.pow_succ, show (2 * (e / 2) + 1) / 2 = e / 2 by omega, Int.mul_comm]
  · rw [if_neg h, Int.mul_emod n ((b * b % 2147483579) ^ (e / 2)), h2, ← Int.mul_emod]
    congr 3; omega

theorem pl_eq : ∀ (k : Nat) (b : Int) (e : Nat) (n : Int), e < 2 ^ k → 0 ≤ n → n < 2147483579 → pl k b e n = n * b ^ e % 2147483579
  | 0, b, e, n, h, h0, h1 => by
    obtain rfl : e = 0 := by omega
    unfold pl; rw [Int.pow_zero, Int.mul_one, Int.emod_eq_of_lt h0 h1]
  | k + 1, b, e, n, h, h0, h1 => by
    unfold pl
    rw [pl_eq k _ _ _ (by rw [Nat.pow_succ] at h; omega), ← sq_step]
    · split
      · exact Int.emod_nonneg _ (by decide)
      · exact h0
    · split
      · exact Int.emod_lt_of_pos _ (by decide)
      · exact h1

theorem pw_of_pl (k : Nat) (b : Int) (e : Nat) (h : e < 2 ^ k) : pw b e = pl k b e 1 := by
  rw [pl_eq k b e 1 h (by decide) (by decide), Int.one_mul]; rfl

theorem four_Q : pw 4 1073741789 = 1 := by rw [pw_of_pl 30 _ _ (by decide)]; decide +kernel

/-- no divisor of Q from lo on, 2 ^ k numbers. -/
def noDiv : Nat → Nat → Bool
  | 0, lo => 1073741789 % lo != 0
  | k + 1, lo => noDiv k lo && noDiv k (lo + 2 ^ k)
theorem noDiv_tells : ∀ (k lo : Nat), noDiv k lo = true → ∀ n, lo ≤ n → n < lo + 2 ^ k → 1073741789 % n ≠ 0
  | 0, lo, h, n, h0, h1 => by
    obtain rfl : n = lo := by simp at h1; omega
    simpa [noDiv] using h
  | k + 1, lo, h, n, h0, h1 => by
    rw [noDiv, Bool.and_eq_true] at h
    rw [Nat.pow_succ] at h1
    by_cases hl : n < lo + 2 ^ k
    · exact noDiv_tells k lo h.1 n h0 hl
    · exact noDiv_tells k (lo + 2 ^ k) h.2 n (by omega) (by omega)
theorem noDiv_small : noDiv 15 2 = true := by decide +kernel
theorem Q_prime (g : Nat) (h : g ∣ 1073741789) (hlt : g < 1073741789) : g = 1 := by
  obtain ⟨c, hc⟩ := h
  by_cases h1 : g = 1
  · exact h1
  exfalso
  have hg0 : g ≠ 0 := by rintro rfl; simp at hc
  have hc0 : c ≠ 0 := by rintro rfl; simp at hc
  have hc1 : c ≠ 1 := by rintro rfl; omega
  by_cases hs : g ≤ 32768
  · exact noDiv_tells 15 2 noDiv_small g (by omega) (by omega) (by rw [hc]; exact Nat.mul_mod_right _ _)
  · have : c ≤ 32768 := by
      apply Classical.byContradiction; intro hbig
      have := Nat.mul_le_mul (show 32769 ≤ g by omega) (show 32769 ≤ c by omega)
      omega
    exact noDiv_tells 15 2 noDiv_small c (by omega) (by omega) (by rw [hc]; exact Nat.mul_mod_left _ _)

theorem pw_mul_one (b : Int) (a m : Nat) (h : pw b a = 1) : pw b (a * m) = 1 := by rw [← pw_pw, h, pw_base_one]
theorem pw_gcd (b : Int) : ∀ a c : Nat, pw b a = 1 → pw b c = 1 → pw b (Nat.gcd a c) = 1 := by
  intro a c
  induction a, c using Nat.gcd.induction with
  | H0 n => intro _ h; rw [Nat.gcd_zero_left]; exact h
  | H1 m n hm ih =>
    intro h1 h2
    rw [Nat.gcd_rec]
    refine ih ?_ h1
    have := pw_add b (m * (n / m)) (n % m)
    rw [Nat.div_add_mod, pw_mul_one b m _ h1, h2, Int.one_mul, Int.emod_eq_of_lt (pw_nonneg _ _) (pw_lt _ _)] at this
    exact this
/-- the order of 4 is Q. -/
theorem four_ne (e : Nat) (h0 : 1 ≤ e) (h1 : e < 1073741789) : pw 4 e ≠ 1 := by
  intro h
  have g := pw_gcd 4 e 1073741789 h four_Q
  rw [Q_prime (Nat.gcd e 1073741789) (Nat.gcd_dvd_right _ _) (by have := Nat.gcd_le_left 1073741789 (show 0 < e by omega); omega)] at g
  exact absurd g (by decide)
theorem four_round (e : Nat) : pw (pw 4 e) 1073741789 = 1 := by rw [pw_pw, Nat.mul_comm]; exact pw_mul_one _ _ _ four_Q
theorem four_ne_zero (e : Nat) : pw 4 e ≠ 0 := by
  intro h
  have := four_round e
  rw [h, pw_base_zero _ (by decide)] at this
  exact absurd this (by decide)
theorem four_gt (e : Nat) (h0 : 1 ≤ e) (h1 : e < 1073741789) : 1 < pw 4 e := by
  have := pw_nonneg 4 e; have := four_ne e h0 h1; have := four_ne_zero e; omega
/-- a number and P less it: odd powers. -/
theorem pw_turned (y : Int) (e : Nat) (h : pw y e = 1) (ho : e % 2 = 1) : pw (2147483579 - y) e = 2147483578 := by
  have h1 : pw (2147483579 - y) e = pw (2147483578 * y) e := by
    rw [← pw_red (2147483579 - y), ← pw_red (2147483578 * y)]; congr 1; omega
  have h3 : (2147483578 * y) ^ e = 2147483578 ^ e * y ^ e := Int.mul_pow ..
  have h4 : pw (2147483578 * y) e = pw 2147483578 e * pw y e % 2147483579 := by
    unfold pw; rw [h3, Int.mul_emod]
  have h5 : pw 2147483578 e = 2147483578 := by
    rw [show e = 2 * (e / 2) + 1 by omega, pw_succ, ← pw_pw, show pw 2147483578 2 = 1 by decide, pw_base_one]; decide
  rw [h1, h4, h5, h]; decide

/-- what the functions tell. -/
def gMul (a b : Int) : Int := if (0 ≤ a ∧ a < 2147483579) ∧ 0 ≤ b ∧ b < 2147483579 then a * b % 2147483579 else 0
def gPow (b e : Int) : Int := if (0 ≤ b ∧ b < 2147483579) ∧ 0 ≤ e ∧ e ≤ 1073741789 then pl 30 b e.toNat 1 else 0
def gIs (y : Int) : Bool := decide (1 < y ∧ y < 2147483579 ∧ pl 30 y 1073741789 1 = 1)

theorem mul_wrap (a b : Int) (h0 : 0 ≤ a) (h1 : a < 2147483579) (h2 : 0 ≤ b) (h3 : b < 2147483579) : Int.tmod (wrap64 (a * b)) 2147483579 = a * b % 2147483579 := by
  have hm : 0 ≤ a * b := Int.mul_nonneg h0 h2
  have hM : a * b ≤ 2147483578 * 2147483578 := Int.mul_le_mul (by omega) (by omega) h2 (by decide)
  have : wrap64 (a * b) = a * b := by unfold wrap64; omega
  rw [this, Int.tmod_eq_emod_of_nonneg hm]

theorem and_one64 (x : Int) (h0 : 0 ≤ x) (h1 : x < 2 ^ 62) : Go.bits .and .i64 x 1 = x % 2 := by
  have := bits_mask .i64 62 (by decide) (fun n h0 h1 => by rw [IntKind.wrap_i64]; omega) 1 (by decide) x h0 h1
  simpa using this

theorem gPow_in {b e : Int} (h0 : 0 ≤ b) (h1 : b < 2147483579) (h2 : 0 ≤ e) (h3 : e ≤ 1073741789) : gPow b e = pw b e.toNat := by
  unfold gPow; rw [if_pos ⟨⟨h0, h1⟩, h2, h3⟩, ← pw_of_pl 30 b e.toNat (Nat.lt_of_le_of_lt (show e.toNat ≤ 1073741789 by omega) (by decide))]
theorem gMul_in {a b : Int} (h0 : 0 ≤ a) (h1 : a < 2147483579) (h2 : 0 ≤ b) (h3 : b < 2147483579) : gMul a b = a * b % 2147483579 := if_pos ⟨⟨h0, h1⟩, h2, h3⟩
theorem gPow_Q {b : Int} (h0 : 0 ≤ b) (h1 : b < 2147483579) : gPow b 1073741789 = pw b 1073741789 := by
  have : ∀ (e : Int) (n : Nat), e = n → 0 ≤ e → e ≤ 1073741789 → gPow b e = pw b n := by
    intro e n h h2 h3; subst h; exact gPow_in h0 h1 h2 h3
  exact this 1073741789 1073741789 (by decide) (by decide) (by decide)
theorem gIs_yes {y : Int} (h0 : 1 < y) (h1 : y < 2147483579) (h2 : pw y 1073741789 = 1) : gIs y = true := by
  unfold gIs; rw [pw_of_pl 30 y _ (by decide)] at h2; exact decide_eq_true ⟨h0, h1, h2⟩
theorem gIs_no {y : Int} (h : ¬ (1 < y ∧ y < 2147483579 ∧ pw y 1073741789 = 1)) : gIs y = false := by
  unfold gIs; rw [pw_of_pl 30 y _ (by decide)] at h; exact decide_eq_false h
theorem gIs_pw (y : Int) : gIs y = decide (1 < y ∧ y < 2147483579 ∧ pw y 1073741789 = 1) := by unfold gIs; rw [pw_of_pl 30 y _ (by decide)]
theorem gIs_four : gIs 4 = true := gIs_yes (by decide) (by decide) four_Q
theorem gPow_four_Q : gPow 4 1073741789 = 1 := by rw [gPow_Q (by decide) (by decide)]; exact four_Q
theorem gPow_nonneg (b e : Int) : 0 ≤ gPow b e := by
  by_cases h : (0 ≤ b ∧ b < 2147483579) ∧ 0 ≤ e ∧ e ≤ 1073741789
  · rw [gPow_in h.1.1 h.1.2 h.2.1 h.2.2]; exact pw_nonneg _ _
  · unfold gPow; rw [if_neg h]; decide
theorem gPow_lt (b e : Int) : gPow b e < 2147483579 := by
  by_cases h : (0 ≤ b ∧ b < 2147483579) ∧ 0 ≤ e ∧ e ≤ 1073741789
  · rw [gPow_in h.1.1 h.1.2 h.2.1 h.2.2]; exact pw_lt _ _
  · unfold gPow; rw [if_neg h]; decide
theorem gMul_nonneg (b e : Int) : 0 ≤ gMul b e := by unfold gMul; split; exact Int.emod_nonneg _ (by decide); decide
theorem gMul_lt (b e : Int) : gMul b e < 2147483579 := by unfold gMul; split; exact Int.emod_lt_of_pos _ (by decide); decide

end Go.Proofs.Ytongkjihhkgpnab.PM
