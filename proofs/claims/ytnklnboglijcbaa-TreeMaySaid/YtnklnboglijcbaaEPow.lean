/- Products and powers round a prime: contracts. -/
import Derived.Test.YtnklnboglijcbaaProg
import Derived.Test.YtnklnboglijcbaaE27
import Derived.KernelRfl
namespace Go.Proofs.Ytnklnboglijcbaa.E
open Go Go.RowKit
set_option maxRecDepth 100000
set_option linter.unusedVariables false
theorem hm : Try.prog.follows .mixedOrders = true := by kernel_rfl
def ival (i : Nat) : V := .int .i64 (.var i)
def mulR (a b : E) : E := .get (.app 1 (.cons a (.cons b .nil)) .nil) (.lit 0)
def mulC (f : FuncId) : Con := ⟨f, [ival 0, ival 1], .leaf (.int .i64 (mulR (.var 0) (.var 1)), [])⟩
def mulT : T (V × List B) := .br (.lt (.var 0) (.lit 0)) (.leaf (.int .i64 (.lit 0), [])) (.br (.lt (.var 0) (.lit 2147483579)) (.br (.lt (.var 1) (.lit 0)) (.leaf (.int .i64 (.lit 0), [])) (.br (.lt (.var 1) (.lit 2147483579)) (.leaf (.int .i64 (.bin .rem .i64 (.bin .mul .i64 (.var 0) (.var 1)) (.lit 2147483579)), [])) (.leaf (.int .i64 (.lit 0), [])))) (.leaf (.int .i64 (.lit 0), [])))
theorem blt_eq (x y : Nat) : Nat.blt x y = decide (x < y) := by rw [Bool.eq_iff_iff]; simp [Nat.blt]; try omega
theorem mulM_lo {a b : Int} (h : a < 0 ∨ b < 0) : mulM a b = 0 := by
  unfold mulM
  split
  · rename_i x y; simp at h; omega
  · rfl
theorem mulM_hi {a b : Int} (h : 2147483579 ≤ a ∨ 2147483579 ≤ b) : mulM a b = 0 := by
  unfold mulM
  split
  · rename_i x y
    have : (Nat.blt x 2147483579 && Nat.blt y 2147483579) = false := by
      rw [blt_eq, blt_eq, Bool.and_eq_false_iff]
      simp only [Int.ofNat_eq_natCast] at h
      simp only [decide_eq_false_iff_not]
      omega
    rw [this]; rfl
  · rfl
theorem mulM_in {a b : Int} (h1 : 0 ≤ a) (h2 : a < 2147483579) (h3 : 0 ≤ b) (h4 : b < 2147483579) : mulM a b = binI .rem .i64 (binI .mul .i64 a b) 2147483579 := by
  obtain ⟨x, rfl⟩ : ∃ x : Nat, a = x := ⟨a.toNat, by omega⟩
  obtain ⟨y, rfl⟩ : ∃ y : Nat, b = y := ⟨b.toNat, by omega⟩
  have e1 : (Nat.blt x 2147483579 && Nat.blt y 2147483579) = true := by simp [Nat.blt]; omega
  have hxy : x * y ≤ 2147483578 * 2147483578 := Nat.mul_le_mul (by omega) (by omega)
  have e2 : IntKind.i64.wrap ((x : Int) * y) = ((x * y : Nat) : Int) := by
    rw [← Int.natCast_mul]
    refine wrap_id _ _ ?_ ?_
    · show (-9223372036854775808 : Int) ≤ _; omega
    · show _ ≤ (9223372036854775807 : Int); omega
  show (bif Nat.blt x 2147483579 && Nat.blt y 2147483579 then Int.ofNat (x * y % 2147483579) else 0) = _
  rw [e1]
  simp only [binI, e2, cond_true]
  rfl
theorem mulC_of {f : FuncId} (h : shutT (exec Try.prog noTab noLp 100 10 f [ival 0, ival 1]) = mulT) : ConOk Try.prog (mulC f) := by
  refine Con.alt (Con.ofExec hm (fun ρ => noTab_ok _ ρ) (fun ρ => noLp_ok _ ρ) rfl h) fun ρ r' bs' hp hb => ?_
  cases hp
  have key : ∀ e : E, e.den ρ = mulM (ρ.e 0) (ρ.e 1) → V.imp ρ (.int .i64 e) (.int .i64 (mulR (.var 0) (.var 1))) := fun e he => V.imp.int (by rw [he]; rfl)
  simp only [mulT, T.pick, B.den, E.den]
  have c1 : ∀ a b, ltb a b = decide (a < b) := ltb_eq
  cases h1 : ltb (ρ.e 0) 0 with
  | true => exact ⟨_, _, rfl, hb, key _ (by rw [mulM_lo (.inl (ltb_ok h1))]; rfl)⟩
  | false =>
    cases h2 : ltb (ρ.e 0) 2147483579 with
    | false => exact ⟨_, _, rfl, hb, key _ (by rw [mulM_hi (.inl (ltb_no h2))]; rfl)⟩
    | true =>
      cases h3 : ltb (ρ.e 1) 0 with
      | true => exact ⟨_, _, rfl, hb, key _ (by rw [mulM_lo (.inr (ltb_ok h3))]; rfl)⟩
      | false =>
        cases h4 : ltb (ρ.e 1) 2147483579 with
        | false => exact ⟨_, _, rfl, hb, key _ (by rw [mulM_hi (.inr (ltb_no h4))]; rfl)⟩
        | true => exact ⟨_, _, rfl, hb, key _ (by rw [mulM_in (ltb_no h1) (ltb_ok h2) (ltb_no h3) (ltb_ok h4)]; rfl)⟩
theorem mul1_ok : ConOk Try.prog (mulC 41) := mulC_of (by kernel_rfl)
theorem mul2_ok : ConOk Try.prog (mulC 37) := mulC_of (by kernel_rfl)
/-- a loop's rounds. -/
def powFr (b e n : E) : List (Nat × V) := [(0, .int .i64 b), (1, .int .i64 e), (5, .int .i64 n)]
def powR : T LRes := .br (.lt (.lit 0) (.var 1)) (.br (.eq (.bin .and .i64 (.var 1) (.lit 1)) (.lit 1)) (.leaf ⟨.normal, powFr (mulR (.var 0) (.var 0)) (.bin .shr .i64 (.var 1) (.lit 1)) (mulR (.var 2) (.var 0)), 0, [], []⟩) (.leaf ⟨.normal, powFr (mulR (.var 0) (.var 0)) (.bin .shr .i64 (.var 1) (.lit 1)) (.var 2), 0, [], []⟩)) (.leaf ⟨.exit 0, powFr (.var 0) (.var 1) (.var 2), 0, [], []⟩)
def pow3 (b e n : E) : E := .get (.app 3 (.cons b (.cons e (.cons n .nil))) .nil) (.lit 0)
def powL_C (f : FuncId) : LCon := ⟨f, 4, powFr (.var 0) (.var 1) (.var 2), 0, [], .leaf ⟨.exit 0, [(5, .int .i64 (pow3 (.var 0) (.var 1) (.var 2)))], 0, [], [.not (.lt (.var 1) (.lit 0)), .not (.lt (.lit 1073741789) (.var 1))]⟩⟩
theorem powG0 (s : Sub) (a b c : E) : fmOf (frOf ((powFr a b c).map fun p => (p.1, p.2.sub s))) 0 = .int .i64 (a.sub s) := by kernel_rfl
theorem powG1 (s : Sub) (a b c : E) : fmOf (frOf ((powFr a b c).map fun p => (p.1, p.2.sub s))) 1 = .int .i64 (b.sub s) := by kernel_rfl
theorem powG5 (s : Sub) (a b c : E) : fmOf (frOf ((powFr a b c).map fun p => (p.1, p.2.sub s))) 5 = .int .i64 (c.sub s) := by kernel_rfl
theorem powV0 (a b c : E) : fmOf (frOf (powFr a b c)) 0 = .int .i64 a := by kernel_rfl
theorem powV1 (a b c : E) : fmOf (frOf (powFr a b c)) 1 = .int .i64 b := by kernel_rfl
theorem powV5 (a b c : E) : fmOf (frOf (powFr a b c)) 5 = .int .i64 c := by kernel_rfl
theorem powW (v : V) : fmOf (frOf [(5, v)]) 5 = v := by kernel_rfl
theorem and1 (x : Nat) (h : x < 4611686018427387904) : binI .and .i64 x 1 = ((x % 2 : Nat) : Int) := by
  simp only [binI]
  have : (BitVec.ofInt IntKind.i64.bits (x : Int) &&& BitVec.ofInt IntKind.i64.bits 1).toNat = x % 2 := by
    show (BitVec.ofInt 64 (x : Int) &&& BitVec.ofInt 64 1).toNat = x % 2
    rw [BitVec.ofInt_natCast, BitVec.toNat_and, BitVec.toNat_ofNat]
    show (x % 2 ^ 64) &&& 1 = x % 2
    rw [Nat.and_one_is_mod]
    omega
  rw [this]
  refine wrap_id _ _ ?_ ?_
  · show (-9223372036854775808 : Int) ≤ _; omega
  · show _ ≤ (9223372036854775807 : Int); omega
theorem shr1 (x : Nat) : binI .shr .i64 x 1 = ((x / 2 : Nat) : Int) := by
  simp only [binI]
  rw [Int.fdiv_eq_ediv_of_nonneg _ (by decide)]
  simp [IntKind.bits]
theorem pow_rounds {f m : FuncId} (hmul : ConOk Try.prog (mulC m)) (hr : cutT [0, 1, 5] [] (roundT Try.prog (tabC [mulC m]) noLp 100 10 f 4 (powFr (.var 0) (.var 1) (.var 2)) 0 [] []) = powR) {nt : Nat} {a : Code} (ha : theLoop Try.prog f 4 = some (nt, a)) (ρ : Env) (ee : Nat) (hee : ee ≤ 0) : ∀ (k x : Nat) (b n : Int), x < 2 ^ k → k ≤ 62 →
    ∃ j, TR Try.prog ρ ee nt a j (fmOf (frOf (powFr (.lit b) (.lit x) (.lit n)))) 0 (obOf []).get (.exit 0) (fmOf (frOf [(5, .int .i64 (.lit (powL k b x n)))])) 0 (obOf []).get := by
  have htt : ∀ ρ, TTOk Try.prog ρ (tabC [mulC m]) := fun ρ => tabC_ok fun c hc => by rw [List.mem_singleton.1 hc]; exact hmul
  intro k
  induction k with
  | zero =>
    intro x b n hx _
    obtain rfl : x = 0 := by omega
    have hp : (cutT [0, 1, 5] [] (roundT Try.prog (tabC [mulC m]) noLp 100 10 f 4 (powFr (.var 0) (.var 1) (.var 2)) 0 [] [])).pick (ρ.sub (litS [b, 0, n])) = some ⟨.exit 0, powFr (.var 0) (.var 1) (.var 2), 0, [], []⟩ := by
      rw [hr]; simp only [powR, T.pick, B.den, E.den, litS_e]; rfl
    obtain ⟨_, h2⟩ := round_sub hm (litS_noix _) (htt _) (noLp_ok _ _) ha hp (fun _ hb => by cases hb)
    refine ⟨1, TR.out ((h2 ee hee).imp (Fm.imp.refl _ _) (Sto.imp.refl _ _) (frOf_imp fun p hp => ?_) (Sto.imp.refl _ _)) (by simp)⟩
    rw [List.mem_singleton.1 hp]
    rw [powG5]
    exact V.imp.int (by rw [E.sub_den]; simp only [E.den, litS_e]; rfl)
  | succ k ih =>
    intro x b n hx hk
    by_cases hx0 : x = 0
    · subst hx0
      have hp : (cutT [0, 1, 5] [] (roundT Try.prog (tabC [mulC m]) noLp 100 10 f 4 (powFr (.var 0) (.var 1) (.var 2)) 0 [] [])).pick (ρ.sub (litS [b, 0, n])) = some ⟨.exit 0, powFr (.var 0) (.var 1) (.var 2), 0, [], []⟩ := by
        rw [hr]; simp only [powR, T.pick, B.den, E.den, litS_e]; rfl
      obtain ⟨_, h2⟩ := round_sub hm (litS_noix _) (htt _) (noLp_ok _ _) ha hp (fun _ hb => by cases hb)
      refine ⟨1, TR.out ((h2 ee hee).imp (Fm.imp.refl _ _) (Sto.imp.refl _ _) (frOf_imp fun p hp => ?_) (Sto.imp.refl _ _)) (by simp)⟩
      rw [List.mem_singleton.1 hp]
      rw [powG5]
      exact V.imp.int (by rw [E.sub_den]; simp only [E.den, litS_e]; rfl)
    · have hlt : x < 4611686018427387904 := Nat.lt_of_lt_of_le hx (Nat.pow_le_pow_right (by omega) hk)
      have hpos : ltb 0 (x : Int) = true := by rw [ltb_eq]; simp; omega
      have e0 : (ρ.sub (litS [b, (x : Int), n])).e 0 = b := litS_e ρ _ 0
      have e1 : (ρ.sub (litS [b, (x : Int), n])).e 1 = x := litS_e ρ _ 1
      have e2 : (ρ.sub (litS [b, (x : Int), n])).e 2 = n := litS_e ρ _ 2
      obtain ⟨j, ihj⟩ := ih (x / 2) (mulM b b) (bif Nat.beq (x % 2) 1 then mulM n b else n) (by omega) (by omega)
      have hb0 : Nat.beq x 0 = false := by cases x with | zero => exact absurd rfl hx0 | succ _ => rfl
      have hend : powL (k + 1) b x n = powL k (mulM b b) (x / 2) (bif Nat.beq (x % 2) 1 then mulM n b else n) := by
        conv => lhs; unfold powL
        rw [hb0]; rfl
      rw [hend]
      refine ⟨j + 1, ?_⟩
      by_cases hodd : x % 2 = 1
      · have hp : (cutT [0, 1, 5] [] (roundT Try.prog (tabC [mulC m]) noLp 100 10 f 4 (powFr (.var 0) (.var 1) (.var 2)) 0 [] [])).pick (ρ.sub (litS [b, (x : Int), n])) = some ⟨.normal, powFr (mulR (.var 0) (.var 0)) (.bin .shr .i64 (.var 1) (.lit 1)) (mulR (.var 2) (.var 0)), 0, [], []⟩ := by
          rw [hr]; simp only [powR, T.pick, B.den, E.den, e1, hpos, and1 x hlt, hodd, cond_true]; rfl
        obtain ⟨_, h2⟩ := round_sub hm (litS_noix _) (htt _) (noLp_ok _ _) ha hp (fun _ hb => by cases hb)
        refine TR.more ((h2 ee hee).imp (Fm.imp.refl _ _) (Sto.imp.refl _ _) (frOf_imp (r := powFr (.lit (mulM b b)) (.lit ((x / 2 : Nat) : Int)) (.lit (bif Nat.beq (x % 2) 1 then mulM n b else n))) fun p hp => ?_) (Sto.imp.refl _ _)) ihj
        simp only [powFr, List.mem_cons, List.not_mem_nil, or_false] at hp
        rcases hp with rfl | rfl | rfl
        · rw [powG0]; exact V.imp.int (by rw [E.sub_den]; simp only [mulR, E.den, L.den, J, e0]; rfl)
        · rw [powG1]; exact V.imp.int (by rw [E.sub_den]; simp only [E.den, e1]; exact shr1 x)
        · rw [powG5]; exact V.imp.int (by rw [E.sub_den, hodd]; simp only [mulR, E.den, L.den, J, e0, e2]; rfl)
      · have hev : x % 2 = 0 := by omega
        have hp : (cutT [0, 1, 5] [] (roundT Try.prog (tabC [mulC m]) noLp 100 10 f 4 (powFr (.var 0) (.var 1) (.var 2)) 0 [] [])).pick (ρ.sub (litS [b, (x : Int), n])) = some ⟨.normal, powFr (mulR (.var 0) (.var 0)) (.bin .shr .i64 (.var 1) (.lit 1)) (.var 2), 0, [], []⟩ := by
          rw [hr]; simp only [powR, T.pick, B.den, E.den, e1, hpos, and1 x hlt, hev, cond_true]; rfl
        obtain ⟨_, h2⟩ := round_sub hm (litS_noix _) (htt _) (noLp_ok _ _) ha hp (fun _ hb => by cases hb)
        refine TR.more ((h2 ee hee).imp (Fm.imp.refl _ _) (Sto.imp.refl _ _) (frOf_imp (r := powFr (.lit (mulM b b)) (.lit ((x / 2 : Nat) : Int)) (.lit (bif Nat.beq (x % 2) 1 then mulM n b else n))) fun p hp => ?_) (Sto.imp.refl _ _)) ihj
        simp only [powFr, List.mem_cons, List.not_mem_nil, or_false] at hp
        rcases hp with rfl | rfl | rfl
        · rw [powG0]; exact V.imp.int (by rw [E.sub_den]; simp only [mulR, E.den, L.den, J, e0]; rfl)
        · rw [powG1]; exact V.imp.int (by rw [E.sub_den]; simp only [E.den, e1]; exact shr1 x)
        · rw [powG5]; exact V.imp.int (by rw [E.sub_den, hev]; simp only [E.den, e2]; rfl)
theorem powLC_of {f m : FuncId} (hmul : ConOk Try.prog (mulC m)) (hr : cutT [0, 1, 5] [] (roundT Try.prog (tabC [mulC m]) noLp 100 10 f 4 (powFr (.var 0) (.var 1) (.var 2)) 0 [] []) = powR) (hl : (theLoop Try.prog f 4).isSome = true) : LConOk Try.prog (powL_C f) := by
  obtain ⟨⟨nt, a⟩, ha⟩ := Option.isSome_iff_exists.1 hl
  refine ⟨nt, a, ha, fun ρ r hp => ?_⟩
  cases hp
  refine ⟨Nat.le_refl _, fun hok ee hee => ?_⟩
  have h0 : ltb (ρ.e 1) 0 = false := by have := hok _ (List.mem_cons_self ..); simpa [B.den, E.den] using this
  have h1 : ltb 1073741789 (ρ.e 1) = false := by have := hok _ (List.mem_cons_of_mem _ (List.mem_cons_self ..)); simpa [B.den, E.den] using this
  have h0 := ltb_no h0
  have h1 := ltb_no h1
  obtain ⟨x, hx⟩ : ∃ x : Nat, ρ.e 1 = x := ⟨(ρ.e 1).toNat, by omega⟩
  obtain ⟨j, hj⟩ := pow_rounds hmul hr ha ρ ee hee 62 x (ρ.e 0) (ρ.e 2) (by omega) (Nat.le_refl _)
  refine ⟨j, hj.imp (frOf_imp fun p hp => ?_) (Sto.imp.refl _ _) (frOf_imp fun p hp => ?_) (Sto.imp.refl _ _)⟩
  · simp only [powFr, List.mem_cons, List.not_mem_nil, or_false] at hp
    rcases hp with rfl | rfl | rfl
    · show V.imp ρ (fmOf (frOf (powFr (.var 0) (.var 1) (.var 2))) 0) _
      rw [powV0]; exact V.imp.int rfl
    · show V.imp ρ (fmOf (frOf (powFr (.var 0) (.var 1) (.var 2))) 1) _
      rw [powV1]; exact V.imp.int hx
    · show V.imp ρ (fmOf (frOf (powFr (.var 0) (.var 1) (.var 2))) 5) _
      rw [powV5]; exact V.imp.int rfl
  · rw [List.mem_singleton.1 hp, powW]
    refine V.imp.int ?_
    show powL 62 (ρ.e 0) x (ρ.e 2) = powL 62 (ρ.e 0) (ρ.e 1).toNat (ρ.e 2)
    rw [hx]; rfl
theorem pow1_ok : LConOk Try.prog (powL_C 39) := powLC_of mul1_ok (by kernel_rfl) (by kernel_rfl)
theorem pow2_ok : LConOk Try.prog (powL_C 34) := powLC_of mul2_ok (by kernel_rfl) (by kernel_rfl)
/-- a power. -/
def powE (a b : E) : E := .get (.app 2 (.cons a (.cons b .nil)) .nil) (.lit 0)
def powC (f : FuncId) : Con := ⟨f, [ival 0, ival 1], .leaf (.int .i64 (powE (.var 0) (.var 1)), [])⟩
def powT : T (V × List B) := .br (.lt (.var 0) (.lit 0)) (.leaf (.int .i64 (.lit 0), [])) (.br (.lt (.var 0) (.lit 2147483579)) (.br (.lt (.var 1) (.lit 0)) (.leaf (.int .i64 (.lit 0), [])) (.br (.lt (.lit 1073741789) (.var 1)) (.leaf (.int .i64 (.lit 0), [])) (.leaf (.int .i64 (pow3 (.var 0) (.var 1) (.lit 1)), [])))) (.leaf (.int .i64 (.lit 0), [])))
theorem powM_lo {a b : Int} (h : a < 0 ∨ b < 0) : powM a b = 0 := by
  unfold powM
  split
  · rename_i x y; simp at h; omega
  · rfl
theorem powM_hi {a b : Int} (h : 2147483579 ≤ a ∨ 1073741789 < b) : powM a b = 0 := by
  unfold powM
  split
  · rename_i x y
    have : (Nat.blt x 2147483579 && Nat.ble y 1073741789) = false := by
      rw [blt_eq, Bool.and_eq_false_iff]
      simp only [Int.ofNat_eq_natCast] at h
      rcases h with h | h
      · left; simp only [decide_eq_false_iff_not]; omega
      · right
        cases hc : Nat.ble y 1073741789 with
        | false => rfl
        | true => have := Nat.le_of_ble_eq_true hc; omega
    rw [this]; rfl
  · rfl
theorem powM_in {a b : Int} (h1 : 0 ≤ a) (h2 : a < 2147483579) (h3 : 0 ≤ b) (h4 : b ≤ 1073741789) : powM a b = powL 62 a b.toNat 1 := by
  obtain ⟨x, rfl⟩ : ∃ x : Nat, a = x := ⟨a.toNat, by omega⟩
  obtain ⟨y, rfl⟩ : ∃ y : Nat, b = y := ⟨b.toNat, by omega⟩
  have e1 : (Nat.blt x 2147483579 && Nat.ble y 1073741789) = true := by
    rw [blt_eq, Nat.ble_eq_true_of_le (by omega : y ≤ 1073741789)]; simp; omega
  show (bif Nat.blt x 2147483579 && Nat.ble y 1073741789 then powL 62 (Int.ofNat x) y 1 else 0) = _
  rw [e1]; rfl
theorem powC_of {f m : FuncId} (hmul : ConOk Try.prog (mulC m)) (hl : LConOk Try.prog (powL_C f)) (h : shutT (exec Try.prog (tabC [mulC m]) (lpC [powL_C f]) 100 10 f [ival 0, ival 1]) = powT) : ConOk Try.prog (powC f) := by
  refine Con.alt (Con.ofExec hm (fun ρ => tabC_ok fun c hc => by rw [List.mem_singleton.1 hc]; exact hmul) (fun ρ => lpC_ok fun c hc => by rw [List.mem_singleton.1 hc]; exact hl) rfl h) fun ρ r' bs' hp hb => ?_
  cases hp
  have key : ∀ e : E, e.den ρ = powM (ρ.e 0) (ρ.e 1) → V.imp ρ (.int .i64 e) (.int .i64 (powE (.var 0) (.var 1))) := fun e he => V.imp.int (by rw [he]; rfl)
  simp only [powT, T.pick, B.den, E.den]
  cases h1 : ltb (ρ.e 0) 0 with
  | true => exact ⟨_, _, rfl, hb, key _ (by rw [powM_lo (.inl (ltb_ok h1))]; rfl)⟩
  | false =>
    cases h2 : ltb (ρ.e 0) 2147483579 with
    | false => exact ⟨_, _, rfl, hb, key _ (by rw [powM_hi (.inl (ltb_no h2))]; rfl)⟩
    | true =>
      cases h3 : ltb (ρ.e 1) 0 with
      | true => exact ⟨_, _, rfl, hb, key _ (by rw [powM_lo (.inr (ltb_ok h3))]; rfl)⟩
      | false =>
        cases h4 : ltb 1073741789 (ρ.e 1) with
        | true => exact ⟨_, _, rfl, hb, key _ (by rw [powM_hi (.inr (ltb_ok h4))]; rfl)⟩
        | false => exact ⟨_, _, rfl, hb, key _ (by rw [powM_in (ltb_no h1) (ltb_ok h2) (ltb_no h3) (ltb_no h4)]; rfl)⟩
/-- is it a public key? -/
def isB (a : E) : B := .eq (.get (.app 4 (.cons a .nil) .nil) (.lit 0)) (.lit 1)
def isC (f : FuncId) : Con := ⟨f, [ival 0], .leaf (.bool (isB (.var 0)), [])⟩
def isT_ : T (V × List B) := .br (.lt (.lit 1) (.var 0)) (.br (.lt (.var 0) (.lit 2147483579)) (.leaf (.bool (.eq (powE (.var 0) (.lit 1073741789)) (.lit 1)), [])) (.leaf (.bool (.lit false), []))) (.leaf (.bool (.lit false), []))
theorem isM_eq (y : Int) : isM y = b2i (ltb 1 y && ltb y 2147483579 && eqb (powM y 1073741789) 1) := by
  cases y with
  | negSucc n => rfl
  | ofNat n =>
    simp only [isM]
    generalize powM (Int.ofNat n) 1073741789 = z
    cases z <;> rfl
theorem isC_of {f p : FuncId} (hp : ConOk Try.prog (powC p)) (h : shutT (exec Try.prog (tabC [powC p]) noLp 100 10 f [ival 0]) = isT_) : ConOk Try.prog (isC f) := by
  refine Con.alt (Con.ofExec hm (fun ρ => tabC_ok fun c hc => by rw [List.mem_singleton.1 hc]; exact hp) (fun ρ => noLp_ok _ ρ) rfl h) fun ρ r' bs' hp hb => ?_
  cases hp
  have key : ∀ b : B, b.den ρ = (ltb 1 (ρ.e 0) && ltb (ρ.e 0) 2147483579 && eqb (powM (ρ.e 0) 1073741789) 1) → V.imp ρ (.bool b) (.bool (isB (.var 0))) := fun b he => V.imp.bool (by
    rw [he]
    show _ = eqb (isM (ρ.e 0)) 1
    rw [isM_eq]
    cases (ltb 1 (ρ.e 0) && ltb (ρ.e 0) 2147483579 && eqb (powM (ρ.e 0) 1073741789) 1) <;> rfl)
  simp only [isT_, T.pick, B.den, E.den]
  cases h1 : ltb 1 (ρ.e 0) with
  | false => exact ⟨_, _, rfl, hb, key _ (by rw [h1]; rfl)⟩
  | true =>
    cases h2 : ltb (ρ.e 0) 2147483579 with
    | false => exact ⟨_, _, rfl, hb, key _ (by rw [h1, h2]; rfl)⟩
    | true => exact ⟨_, _, rfl, hb, key _ (by rw [h1, h2]; rfl)⟩
theorem powC1_ok : ConOk Try.prog (powC 39) := powC_of mul1_ok pow1_ok (by kernel_rfl)
theorem powC2_ok : ConOk Try.prog (powC 34) := powC_of mul2_ok pow2_ok (by kernel_rfl)
theorem isC1_ok : ConOk Try.prog (isC 38) := isC_of powC1_ok (by kernel_rfl)
theorem isC2_ok : ConOk Try.prog (isC 23) := isC_of powC2_ok (by kernel_rfl)
end Go.Proofs.Ytnklnboglijcbaa.E
