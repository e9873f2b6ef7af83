/- Products and powers round a prime: contracts. -/
import Derived.Test.YtmckhoaekbeijaaGreatProg
import Derived.Test.YtmckhoaekbeijaaGreatFD
import Derived.KernelRfl
namespace Go.Proofs.YtmckhoaekbeijaaGreat.E
open Go Go.RowKit
set_option maxRecDepth 100000
set_option linter.unusedVariables false
noncomputable abbrev Pr : Program := Tryz.prog
theorem hm : Pr.follows .mixedOrders = true := by kernel_rfl
def ival (i : Nat) : V := .int .i64 (.var i)
def cf0 : Cf := ⟨tabC [], lpC [], noMg⟩
theorem cf0_ok : CfOk Pr cf0 := cfOk_mk all_nil all_nil
def mulR (a b : E) : E := .get (.app 1 (.cons a (.cons b .nil)) .nil) (.lit 0)
def mulC (f : FuncId) : Con := ⟨f, [ival 0, ival 1], .leaf (.int .i64 (mulR (.var 0) (.var 1)), [])⟩
def mulT : T (V × List B) := .br (.lt (.var 0) (.lit 0)) (.leaf (.int .i64 (.lit 0), [])) (.br (.lt (.var 0) (.lit 2147483579)) (.br (.lt (.var 1) (.lit 0)) (.leaf (.int .i64 (.lit 0), [])) (.br (.lt (.var 1) (.lit 2147483579)) (.leaf (.int .i64 (.bin .rem .i64 (.bin .mul .i64 (.var 0) (.var 1)) (.lit 2147483579)), [])) (.leaf (.int .i64 (.lit 0), [])))) (.leaf (.int .i64 (.lit 0), [])))
theorem blt_eq (x y : Nat) : Nat.blt x y = decide (x < y) := by rw [Bool.eq_iff_iff]; simp [Nat.blt]; try omega
theorem mulM_lo {a b : Int} (h : a < 0 ∨ b < 0) : mulM a b = 0 := by
  unfold mulM
  split
  · rename_i x y; simp at h; omega
  · rfl
theorem mulM_hi {a b : Int} (h : 2147483579 ≤ a ∨ 2147483579 ≤ b) : mulM a b = 0 := by
  unfold mulM
  split
  · rename_i x y
    have : (Nat.blt x 2147483579 && Nat.blt y 2147483579) = false := by
      rw [blt_eq, blt_eq, Bool.and_eq_false_iff]
      simp only [Int.ofNat_eq_natCast] at h
      simp only [decide_eq_false_iff_not]
      omega
    rw [this]; rfl
  · rfl
theorem mulM_in {a b : Int} (h1 : 0 ≤ a) (h2 : a < 2147483579) (h3 : 0 ≤ b) (h4 : b < 2147483579) : mulM a b = binI .rem .i64 (binI .mul .i64 a b) 2147483579 := by
  obtain ⟨x, rfl⟩ : ∃ x : Nat, a = x := ⟨a.toNat, by omega⟩
  obtain ⟨y, rfl⟩ : ∃ y : Nat, b = y := ⟨b.toNat, by omega⟩
  have e1 : (Nat.blt x 2147483579 && Nat.blt y 2147483579) = true := by simp [Nat.blt]; omega
  have hxy : x * y ≤ 2147483578 * 2147483578 := Nat.mul_le_mul (by omega) (by omega)
  have e2 : IntKind.i64.wrap ((x : Int) * y) = ((x * y : Nat) : Int) := by
    rw [← Int.natCast_mul]
    refine wrap_id _ _ ?_ ?_
    · show (-9223372036854775808 : Int) ≤ _; omega
    · show _ ≤ (9223372036854775807 : Int); omega
  show (bif Nat.blt x 2147483579 && Nat.blt y 2147483579 then Int.ofNat (x * y % 2147483579) else 0) = _
  rw [e1]
  simp only [binI, e2, cond_true]
  rfl
theorem mulM_rg (a b : Int) : 0 ≤ mulM a b ∧ mulM a b < 2147483579 := by
  unfold mulM
  split
  · rename_i x y
    cases Nat.blt x 2147483579 && Nat.blt y 2147483579 with
    | true => simp only [cond_true, Int.ofNat_eq_natCast]; omega
    | false => simp only [cond_false]; omega
  · omega
theorem wrap_lt {x : Int} (h1 : 0 ≤ x) (h2 : x < 2147483579) : IntKind.i64.wrap x = x := wrap_id _ _ (by show (-9223372036854775808 : Int) ≤ _; omega) (by show _ ≤ (9223372036854775807 : Int); omega)
theorem mulR_den (ρ : Env) (a b : E) : (mulR a b).den ρ = mulM (a.den ρ) (b.den ρ) := by
  show IntKind.i64.wrap (mulM (a.den ρ) (b.den ρ)) = _
  exact wrap_lt (mulM_rg _ _).1 (mulM_rg _ _).2
theorem mulC_of {f : FuncId} (h : shutT (exec Pr cf0 100 10 f [ival 0, ival 1]) = mulT) : ConOk Pr (mulC f) := by
  refine Con.alt (Con.ofExec hm cf0_ok rfl h) fun ρ r' bs' hp hb => ?_
  cases hp
  have key : ∀ e : E, e.den ρ = mulM (ρ.e 0) (ρ.e 1) → V.imp ρ (.int .i64 e) (.int .i64 (mulR (.var 0) (.var 1))) := fun e he => V.imp.int (by rw [he, mulR_den]; rfl)
  simp only [mulT, T.pick, B.den, E.den]
  cases h1 : ltb (ρ.e 0) 0 with
  | true => exact ⟨_, _, rfl, hb, key _ (by rw [mulM_lo (.inl (ltb_ok h1))]; rfl)⟩
  | false =>
    cases h2 : ltb (ρ.e 0) 2147483579 with
    | false => exact ⟨_, _, rfl, hb, key _ (by rw [mulM_hi (.inl (ltb_no h2))]; rfl)⟩
    | true =>
      cases h3 : ltb (ρ.e 1) 0 with
      | true => exact ⟨_, _, rfl, hb, key _ (by rw [mulM_lo (.inr (ltb_ok h3))]; rfl)⟩
      | false =>
        cases h4 : ltb (ρ.e 1) 2147483579 with
        | false => exact ⟨_, _, rfl, hb, key _ (by rw [mulM_hi (.inr (ltb_no h4))]; rfl)⟩
        | true => exact ⟨_, _, rfl, hb, key _ (by rw [mulM_in (ltb_no h1) (ltb_ok h2) (ltb_no h3) (ltb_ok h4)]; rfl)⟩
theorem mul1_ok : ConOk Pr (mulC 199) := mulC_of (by kernel_rfl)
theorem mul2_ok : ConOk Pr (mulC 219) := mulC_of (by kernel_rfl)
/-- a loop's rounds. -/
def powH : LHead := ⟨[(0, ival 0), (1, ival 1), (5, ival 2)], 0, [], []⟩
def powE3 (b e n : E) : E := .get (.app 3 (.cons b (.cons e (.cons n .nil))) .nil) (.lit 0)
def powRes : T LRes := .leaf ⟨.exit 0, [(5, .int .i64 (powE3 (.var 0) (.var 1) (.var 2)))], 0, [], [.not (.lt (.var 1) (.lit 0)), .not (.lt (.lit 1073741789) (.var 1)), .not (.lt (.var 2) (.lit 0)), .lt (.var 2) (.lit 2147483579)]⟩
def powT : T LEnd := .br (.lt (.lit 0) (.var 1)) (.br (.eq (.bin .and .i64 (.var 1) (.lit 1)) (.lit 1)) (.leaf (.go ⟨[mulR (.var 0) (.var 0), .bin .shr .i64 (.var 1) (.lit 1), mulR (.var 2) (.var 0)], [], [], [], .ix⟩ [])) (.leaf (.go ⟨[mulR (.var 0) (.var 0), .bin .shr .i64 (.var 1) (.lit 1), .var 2], [], [], [], .ix⟩ []))) (.leaf (.out ⟨.exit 0, [(5, .int .i64 (.var 2))], 0, [], []⟩))
theorem and1 (x : Nat) (h : x < 4611686018427387904) : binI .and .i64 x 1 = ((x % 2 : Nat) : Int) := by
  simp only [binI]
  have : (BitVec.ofInt IntKind.i64.bits (x : Int) &&& BitVec.ofInt IntKind.i64.bits 1).toNat = x % 2 := by
    show (BitVec.ofInt 64 (x : Int) &&& BitVec.ofInt 64 1).toNat = x % 2
    rw [BitVec.ofInt_natCast, BitVec.toNat_and, BitVec.toNat_ofNat]
    show (x % 2 ^ 64) &&& 1 = x % 2
    rw [Nat.and_one_is_mod]
    omega
  rw [this]
  refine wrap_id _ _ ?_ ?_
  · show (-9223372036854775808 : Int) ≤ _; omega
  · show _ ≤ (9223372036854775807 : Int); omega
theorem shr1 (x : Nat) : binI .shr .i64 x 1 = ((x / 2 : Nat) : Int) := by
  simp only [binI]
  rw [Int.fdiv_eq_ediv_of_nonneg _ (by decide)]
  simp [IntKind.bits]
theorem powL_rg : ∀ (k : Nat) (b : Int) (e : Nat) (n : Int), 0 ≤ n → n < 2147483579 → 0 ≤ powL k b e n ∧ powL k b e n < 2147483579
  | 0, _, _, n, h1, h2 => ⟨h1, h2⟩
  | k + 1, b, e, n, h1, h2 => by
    unfold powL
    cases Nat.beq e 0 with
    | true => exact ⟨h1, h2⟩
    | false =>
      rw [cond_false]
      cases Nat.beq (e % 2) 1 with
      | true => exact powL_rg k _ _ _ (mulM_rg _ _).1 (mulM_rg _ _).2
      | false => exact powL_rg k _ _ _ h1 h2
/-- from enough rounds on it is one number. -/
theorem powL_more : ∀ (k : Nat) (b : Int) (x : Nat) (n : Int), x < 2 ^ k → powL (k + 1) b x n = powL k b x n
  | 0, b, x, n, h => by obtain rfl : x = 0 := by omega
                        rfl
  | k + 1, b, x, n, h => by
    conv => lhs; unfold powL
    conv => rhs; unfold powL
    cases Nat.beq x 0 with
    | true => rfl
    | false => rw [cond_false, cond_false]; exact powL_more k _ _ _ (by omega)
theorem powE3_den (ρ : Env) (b e n : E) (h1 : 0 ≤ n.den ρ) (h2 : n.den ρ < 2147483579) : (powE3 b e n).den ρ = powL 62 (b.den ρ) (e.den ρ).toNat (n.den ρ) := by
  show IntKind.i64.wrap (powL 62 (b.den ρ) (e.den ρ).toNat (n.den ρ)) = _
  have := powL_rg 62 (b.den ρ) (e.den ρ).toNat (n.den ρ) h1 h2
  exact wrap_lt this.1 this.2
theorem powH_ok {f m : FuncId} (hmul : ConOk Pr (mulC m)) (hr : roundH Pr ⟨tabC [mulC m], lpC [], noMg⟩ 100 10 f 4 powH [] [5] [] = powT) : HeadOk Pr f 4 powH (fun ρ => 0 ≤ ρ.e 1 ∧ ρ.e 1 ≤ 1073741789 ∧ 0 ≤ ρ.e 2 ∧ ρ.e 2 < 2147483579) powRes := by
  refine HeadOk.of hm (cfOk_mk (all_cons hmul all_nil) all_nil) hr _ (fun ρ => (ρ.e 1).toNat) powRes (fun ρ _ x hx => by cases hx) fun ρ r hI hp => ?_
  cases hp
  obtain ⟨h1, h2, h3, h4⟩ := hI
  obtain ⟨x, hx⟩ : ∃ x : Nat, ρ.e 1 = x := ⟨(ρ.e 1).toNat, by omega⟩
  have hxl : x < 4611686018427387904 := by omega
  have step : ∀ (k : Nat) (b : Int) (n : Int), x ≠ 0 → x < 2 ^ (k + 1) → powL (k + 1) b x n = powL (k + 1) (mulM b b) (x / 2) (bif Nat.beq (x % 2) 1 then mulM n b else n) := by
    intro k b n hx0 hxk
    have e0 : Nat.beq x 0 = false := by cases x with | zero => exact absurd rfl hx0 | succ _ => rfl
    rw [powL_more k (mulM b b) (x / 2) _ (by omega)]
    conv => lhs; unfold powL
    rw [e0]; rfl
  simp only [powT, T.pick, B.den, E.den, hx]
  cases hpos : ltb 0 (x : Int) with
  | false =>
    have hx0 : x = 0 := by have := ltb_no hpos; omega
    refine ⟨_, rfl, fun b hb => (by cases hb), LRes.mk_imp ⟨rfl, V.imp.int ?_, trivial⟩ trivial, by simp⟩
    rw [powE3_den ρ _ _ (.var 2) h3 h4]
    show ρ.e 2 = powL 62 (ρ.e 0) (ρ.e 1).toNat (ρ.e 2)
    rw [hx, hx0]; rfl
  | true =>
    have hx0 : x ≠ 0 := by have := ltb_ok hpos; omega
    have hdiv : (ρ.e 1).toNat = x := by omega
    rw [cond_true, and1 x hxl]
    by_cases hodd : x % 2 = 1
    · rw [hodd]
      refine ⟨_, rfl, fun b hb => (by cases hb), fun hs => ?_⟩
      have e1 : (ρ.sub ⟨[mulR (.var 0) (.var 0), .bin .shr .i64 (.var 1) (.lit 1), mulR (.var 2) (.var 0)], [], [], [], .ix⟩).e 1 = ((x / 2 : Nat) : Int) := by
        show binI .shr .i64 (ρ.e 1) 1 = _; rw [hx, shr1]
      have e2 : (ρ.sub ⟨[mulR (.var 0) (.var 0), .bin .shr .i64 (.var 1) (.lit 1), mulR (.var 2) (.var 0)], [], [], [], .ix⟩).e 2 = mulM (ρ.e 2) (ρ.e 0) := mulR_den ρ _ _
      have e0 : (ρ.sub ⟨[mulR (.var 0) (.var 0), .bin .shr .i64 (.var 1) (.lit 1), mulR (.var 2) (.var 0)], [], [], [], .ix⟩).e 0 = mulM (ρ.e 0) (ρ.e 0) := mulR_den ρ _ _
      have hmr := mulM_rg (ρ.e 2) (ρ.e 0)
      refine ⟨by rw [e1, e2]; exact ⟨by omega, by omega, hmr.1, hmr.2⟩, by rw [e1]; omega, _, rfl, LRes.mk_imp ⟨rfl, V.imp.int ?_, trivial⟩ trivial⟩
      rw [E.sub_den hs, powE3_den _ _ _ _ (by show 0 ≤ Env.e _ 2; rw [e2]; exact hmr.1) (by show Env.e _ 2 < _; rw [e2]; exact hmr.2), powE3_den ρ _ _ (.var 2) h3 h4]
      show powL 62 (Env.e _ 0) (Env.e _ 1).toNat (Env.e _ 2) = powL 62 (ρ.e 0) (ρ.e 1).toNat (ρ.e 2)
      rw [e0, e1, e2, hdiv, Int.toNat_natCast, step 61 _ _ hx0 (by omega), hodd]; rfl
    · have hev : x % 2 = 0 := by omega
      rw [hev]
      refine ⟨_, rfl, fun b hb => (by cases hb), fun hs => ?_⟩
      have e1 : (ρ.sub ⟨[mulR (.var 0) (.var 0), .bin .shr .i64 (.var 1) (.lit 1), .var 2], [], [], [], .ix⟩).e 1 = ((x / 2 : Nat) : Int) := by
        show binI .shr .i64 (ρ.e 1) 1 = _; rw [hx, shr1]
      have e2 : (ρ.sub ⟨[mulR (.var 0) (.var 0), .bin .shr .i64 (.var 1) (.lit 1), .var 2], [], [], [], .ix⟩).e 2 = ρ.e 2 := rfl
      have e0 : (ρ.sub ⟨[mulR (.var 0) (.var 0), .bin .shr .i64 (.var 1) (.lit 1), .var 2], [], [], [], .ix⟩).e 0 = mulM (ρ.e 0) (ρ.e 0) := mulR_den ρ _ _
      refine ⟨by rw [e1, e2]; exact ⟨by omega, by omega, h3, h4⟩, by rw [e1]; omega, _, rfl, LRes.mk_imp ⟨rfl, V.imp.int ?_, trivial⟩ trivial⟩
      rw [E.sub_den hs, powE3_den _ _ _ _ (by show 0 ≤ Env.e _ 2; rw [e2]; exact h3) (by show Env.e _ 2 < _; rw [e2]; exact h4), powE3_den ρ _ _ (.var 2) h3 h4]
      show powL 62 (Env.e _ 0) (Env.e _ 1).toNat (Env.e _ 2) = powL 62 (ρ.e 0) (ρ.e 1).toNat (ρ.e 2)
      rw [e0, e1, e2, hdiv, Int.toNat_natCast, step 61 _ _ hx0 (by omega), hev]; rfl
def powDs : List Nat := [1, 20, 19, 0, 29, 28, 27, 5, 26, 25, 24, 23, 22, 21, 18, 17]
def powLC (f : FuncId) : LCon := ⟨f, 4, powDs, powH.at [], 0, powH.obs [], powRes⟩
theorem powLC_of {f m : FuncId} (hmul : ConOk Pr (mulC m)) (hr : roundH Pr ⟨tabC [mulC m], lpC [], noMg⟩ 100 10 f 4 powH [] [5] [] = powT) (hds : dsOk Pr f 4 powDs = true) : LConOk Pr (powLC f) :=
  LConOk.of (powH_ok hmul hr) [] hds rfl rfl fun ρ r hp hok => by
    cases hp
    have g1 := hok _ (List.mem_cons_self ..)
    have g2 := hok _ (List.mem_cons_of_mem _ (List.mem_cons_self ..))
    have g3 := hok _ (List.mem_cons_of_mem _ (List.mem_cons_of_mem _ (List.mem_cons_self ..)))
    have g4 := hok _ (List.mem_cons_of_mem _ (List.mem_cons_of_mem _ (List.mem_cons_of_mem _ (List.mem_cons_self ..))))
    simp only [B.den, E.den, Bool.not_eq_true'] at g1 g2 g3 g4
    exact ⟨ltb_no g1, ltb_no g2, ltb_no g3, ltb_ok g4⟩
theorem powL1_ok : LConOk Pr (powLC 135) := powLC_of mul1_ok (by kernel_rfl) (by kernel_rfl)
theorem powL2_ok : LConOk Pr (powLC 160) := powLC_of mul2_ok (by kernel_rfl) (by kernel_rfl)
/-- a power. -/
def powE (a b : E) : E := .get (.app 2 (.cons a (.cons b .nil)) .nil) (.lit 0)
def powC (f : FuncId) : Con := ⟨f, [ival 0, ival 1], .leaf (.int .i64 (powE (.var 0) (.var 1)), [])⟩
def powFT : T (V × List B) := .br (.lt (.var 0) (.lit 0)) (.leaf (.int .i64 (.lit 0), [])) (.br (.lt (.var 0) (.lit 2147483579)) (.br (.lt (.var 1) (.lit 0)) (.leaf (.int .i64 (.lit 0), [])) (.br (.lt (.lit 1073741789) (.var 1)) (.leaf (.int .i64 (.lit 0), [])) (.leaf (.int .i64 (powE3 (.var 0) (.var 1) (.lit 1)), [])))) (.leaf (.int .i64 (.lit 0), [])))
theorem powM_lo {a b : Int} (h : a < 0 ∨ b < 0) : powM a b = 0 := by
  unfold powM
  split
  · rename_i x y; simp at h; omega
  · rfl
theorem powM_hi {a b : Int} (h : 2147483579 ≤ a ∨ 1073741789 < b) : powM a b = 0 := by
  unfold powM
  split
  · rename_i x y
    have : (Nat.blt x 2147483579 && Nat.ble y 1073741789) = false := by
      rw [blt_eq, Bool.and_eq_false_iff]
      simp only [Int.ofNat_eq_natCast] at h
      rcases h with h | h
      · left; simp only [decide_eq_false_iff_not]; omega
      · right
        cases hc : Nat.ble y 1073741789 with
        | false => rfl
        | true => have := Nat.le_of_ble_eq_true hc; omega
    rw [this]; rfl
  · rfl
theorem powM_in {a b : Int} (h1 : 0 ≤ a) (h2 : a < 2147483579) (h3 : 0 ≤ b) (h4 : b ≤ 1073741789) : powM a b = powL 62 a b.toNat 1 := by
  obtain ⟨x, rfl⟩ : ∃ x : Nat, a = x := ⟨a.toNat, by omega⟩
  obtain ⟨y, rfl⟩ : ∃ y : Nat, b = y := ⟨b.toNat, by omega⟩
  have e1 : (Nat.blt x 2147483579 && Nat.ble y 1073741789) = true := by
    rw [blt_eq, Nat.ble_eq_true_of_le (by omega : y ≤ 1073741789)]; simp; omega
  show (bif Nat.blt x 2147483579 && Nat.ble y 1073741789 then powL 62 (Int.ofNat x) y 1 else 0) = _
  rw [e1]; rfl
theorem powM_rg (a b : Int) : 0 ≤ powM a b ∧ powM a b < 2147483579 := by
  unfold powM
  split
  · rename_i x y
    cases Nat.blt x 2147483579 && Nat.ble y 1073741789 with
    | true => rw [cond_true]; exact powL_rg 62 _ _ 1 (by omega) (by omega)
    | false => rw [cond_false]; omega
  · omega
theorem powE_den (ρ : Env) (a b : E) : (powE a b).den ρ = powM (a.den ρ) (b.den ρ) := by
  show IntKind.i64.wrap (powM (a.den ρ) (b.den ρ)) = _
  exact wrap_lt (powM_rg _ _).1 (powM_rg _ _).2
theorem powC_of {f m : FuncId} (hmul : ConOk Pr (mulC m)) (hl : LConOk Pr (powLC f)) (h : shutT (exec Pr ⟨tabC [mulC m], lpC [powLC f], noMg⟩ 100 10 f [ival 0, ival 1]) = powFT) : ConOk Pr (powC f) := by
  refine Con.alt (Con.ofExec hm (cfOk_mk (all_cons hmul all_nil) (all_cons hl all_nil)) rfl h) fun ρ r' bs' hp hb => ?_
  cases hp
  have key : ∀ e : E, e.den ρ = powM (ρ.e 0) (ρ.e 1) → V.imp ρ (.int .i64 e) (.int .i64 (powE (.var 0) (.var 1))) := fun e he => V.imp.int (by rw [he, powE_den]; rfl)
  simp only [powFT, T.pick, B.den, E.den]
  cases h1 : ltb (ρ.e 0) 0 with
  | true => exact ⟨_, _, rfl, hb, key _ (by rw [powM_lo (.inl (ltb_ok h1))]; rfl)⟩
  | false =>
    cases h2 : ltb (ρ.e 0) 2147483579 with
    | false => exact ⟨_, _, rfl, hb, key _ (by rw [powM_hi (.inl (ltb_no h2))]; rfl)⟩
    | true =>
      cases h3 : ltb (ρ.e 1) 0 with
      | true => exact ⟨_, _, rfl, hb, key _ (by rw [powM_lo (.inr (ltb_ok h3))]; rfl)⟩
      | false =>
        cases h4 : ltb 1073741789 (ρ.e 1) with
        | true => exact ⟨_, _, rfl, hb, key _ (by rw [powM_hi (.inr (ltb_ok h4))]; rfl)⟩
        | false => exact ⟨_, _, rfl, hb, key _ (by rw [powM_in (ltb_no h1) (ltb_ok h2) (ltb_no h3) (ltb_no h4), powE3_den ρ _ _ (.lit 1) (by show (0:Int) ≤ 1; decide) (by show (1:Int) < 2147483579; decide)]; rfl)⟩
/-- is it a public key? -/
def isB (a : E) : B := .eq (.get (.app 4 (.cons a .nil) .nil) (.lit 0)) (.lit 1)
def isC (f : FuncId) : Con := ⟨f, [ival 0], .leaf (.bool (isB (.var 0)), [])⟩
def isT_ : T (V × List B) := .br (.lt (.lit 1) (.var 0)) (.br (.lt (.var 0) (.lit 2147483579)) (.leaf (.bool (.eq (powE (.var 0) (.lit 1073741789)) (.lit 1)), [])) (.leaf (.bool (.lit false), []))) (.leaf (.bool (.lit false), []))
theorem isM_eq (y : Int) : isM y = b2i (ltb 1 y && ltb y 2147483579 && eqb (powM y 1073741789) 1) := by
  cases y with
  | negSucc n => rfl
  | ofNat n =>
    simp only [isM]
    generalize powM (Int.ofNat n) 1073741789 = z
    cases z <;> rfl
theorem isB_den (ρ : Env) (a : E) : (isB a).den ρ = eqb (isM (a.den ρ)) 1 := by
  show eqb (IntKind.i64.wrap (isM (a.den ρ))) 1 = _
  congr 1
  rw [isM_eq]
  cases (ltb 1 (a.den ρ) && ltb (a.den ρ) 2147483579 && eqb (powM (a.den ρ) 1073741789) 1) <;> rfl
theorem isC_of {f p : FuncId} (hp : ConOk Pr (powC p)) (h : shutT (exec Pr ⟨tabC [powC p], lpC [], noMg⟩ 100 10 f [ival 0]) = isT_) : ConOk Pr (isC f) := by
  refine Con.alt (Con.ofExec hm (cfOk_mk (all_cons hp all_nil) all_nil) rfl h) fun ρ r' bs' hp hb => ?_
  cases hp
  have key : ∀ b : B, b.den ρ = (ltb 1 (ρ.e 0) && ltb (ρ.e 0) 2147483579 && eqb (powM (ρ.e 0) 1073741789) 1) → V.imp ρ (.bool b) (.bool (isB (.var 0))) := fun b he => V.imp.bool (by
    rw [he, isB_den]
    show _ = eqb (isM (ρ.e 0)) 1
    rw [isM_eq]
    cases (ltb 1 (ρ.e 0) && ltb (ρ.e 0) 2147483579 && eqb (powM (ρ.e 0) 1073741789) 1) <;> rfl)
  simp only [isT_, T.pick, B.den, E.den]
  cases h1 : ltb 1 (ρ.e 0) with
  | false => exact ⟨_, _, rfl, hb, key _ (by rw [h1]; rfl)⟩
  | true =>
    cases h2 : ltb (ρ.e 0) 2147483579 with
    | false => exact ⟨_, _, rfl, hb, key _ (by rw [h1, h2]; rfl)⟩
    | true => exact ⟨_, _, rfl, hb, key _ (by rw [h1, h2, B.den, powE_den]; rfl)⟩
theorem powC1_ok : ConOk Pr (powC 135) := powC_of mul1_ok powL1_ok (by kernel_rfl)
theorem powC2_ok : ConOk Pr (powC 160) := powC_of mul2_ok powL2_ok (by kernel_rfl)
theorem isC1_ok : ConOk Pr (isC 165) := isC_of powC1_ok (by kernel_rfl)
theorem isC2_ok : ConOk Pr (isC 150) := isC_of powC2_ok (by kernel_rfl)
end Go.Proofs.YtmckhoaekbeijaaGreat.E
/- Numbers as bytes: contracts. -/
namespace Go.Proofs.YtmckhoaekbeijaaGreat.E
open Go Go.RowKit
set_option maxRecDepth 100000
set_option linter.unusedVariables false
/-- a number as bytes. -/
def numL (a : E) : L := .app 10 (.cons a .nil) .nil
def numC (f : FuncId) : Con := ⟨f, [ival 0], .leaf (.fs 1 (.ints .u8 (numL (.var 0))), [])⟩
def numX : L := .cons (.conv .u8 (.bin .shr .i64 (.var 0) (.lit 56))) (.cons (.conv .u8 (.bin .shr .i64 (.var 0) (.lit 48))) (.cons (.conv .u8 (.bin .shr .i64 (.var 0) (.lit 40))) (.cons (.conv .u8 (.bin .shr .i64 (.var 0) (.lit 32))) (.cons (.conv .u8 (.bin .shr .i64 (.var 0) (.lit 24))) (.cons (.conv .u8 (.bin .shr .i64 (.var 0) (.lit 16))) (.cons (.conv .u8 (.bin .shr .i64 (.var 0) (.lit 8))) (.cons (.conv .u8 (.bin .shr .i64 (.var 0) (.lit 0))) .nil)))))))
theorem numC_of {f : FuncId} (h : shutT (exec Pr cf0 100 10 f [ival 0]) = .leaf (.fs 1 (.ints .u8 numX), [])) : ConOk Pr (numC f) :=
  Con.alt (Con.ofExec hm cf0_ok rfl h) fun ρ r' bs' hp hb => by cases hp; exact ⟨_, _, rfl, hb, V.imp.fsInts rfl⟩
theorem num1_ok : ConOk Pr (numC 128) := numC_of (by kernel_rfl)
theorem num2_ok : ConOk Pr (numC 76) := numC_of (by kernel_rfl)
theorem numL_den (ρ : Env) (a : E) : (numL a).den ρ = numB (a.den ρ) := rfl
theorem numB_len (n : Int) : (numB n).length = 8 := rfl
theorem wrap_wrap (k : IntKind) (x : Int) : k.wrap (k.wrap x) = k.wrap x := wrap_id k _ (wrap_rg k x).1 (wrap_rg k x).2
theorem numB_wrap (n : Int) : (numB n).map IntKind.u8.wrap = numB n := by
  unfold numB; rw [List.map_map]; exact List.map_congr_left fun x _ => wrap_wrap .u8 x
theorem numsM_wrap (l : List Int) : (numsM l).map IntKind.u8.wrap = numsM l := by
  unfold numsM
  induction l with
  | nil => rfl
  | cons a l ih => rw [List.flatMap_cons, List.map_append, numB_wrap, ih]
theorem opsM_wrap (l : List (List Int)) : (opsM l).map IntKind.u8.wrap = opsM l := by
  unfold opsM
  induction l with
  | nil => rfl
  | cons a l ih => rw [List.flatMap_cons, List.map_append, numsM_wrap, ih]
def numsL (a : L) : L := .app 15 a .nil
theorem numsL_den (ρ : Env) (a : L) : (numsL a).den ρ = numsM (a.den ρ) := by
  show (numsM (a.den ρ)).map IntKind.u8.wrap = _
  exact numsM_wrap _
def numsC (f : FuncId) : Con := ⟨f, [.fs 1 (.ints .i64 (.var 0))], .leaf (.fs 1 (.ints .u8 (numsL (.var 0))), [.lt (.len (.var 0)) (.lit 67108864)])⟩
/-- a row's numbers, one after the other, behind what there is. -/
def numsOks : List B := [.lt (.len (.cat (.var 1) (numL (.get (.var 0) (.var 0))))) (.lit 1073741824), .and (.not (.lt (.var 0) (.lit 0))) (.lt (.var 0) (.len (.var 0))), .and (.not (.lt (.var 0) (.lit 0))) (.lt (.var 0) (.len (.var 0)))]
def numsS : Sub := ⟨[.bin .add .i64 (.var 0) (.lit 1)], [.var 0, .cat (.var 1) (numL (.get (.var 0) (.var 0)))], [], [], .ix⟩
def numsT (slot x : Nat) (oks : List B) : T LEnd := .br (.lt (.var 0) (.len (.var 0))) (.leaf (.go numsS oks)) (.leaf (.out ⟨.exit x, rowFr slot 0 1 (.var 1), 1, rowOb 0 .u8 5 (.var 1), []⟩))
def numsI (ρ : Env) : Prop := 0 ≤ ρ.e 0 ∧ ρ.e 0 ≤ (ρ.l 0).length ∧ (ρ.l 0).length ≤ 67108864 ∧ (ρ.l 1).length + 8 * ((ρ.l 0).length - (ρ.e 0).toNat) ≤ 1073741000
def numsG : L := numsL (restL (.var 0) (.var 0))
def numsOkr : List B := [.eq (.var 0) (.lit 0), .eq (.len (.var 1)) (.lit 0), .lt (.len (.var 0)) (.lit 67108864)]
theorem numsHead {cf : Cf} (hcf : CfOk Pr cf) {f id slot x : Nat} {H : LHead} {oks : List B} (ho : ∀ b ∈ oks, b ∈ numsOks) (hr : roundH Pr cf 100 10 f id H [] [slot] [0] = numsT slot x oks) : HeadOk Pr f id H numsI (.leaf ⟨.exit x, rowFr slot 0 1 (.cat (.var 1) numsG), 1, rowOb 0 .u8 5 (.cat (.var 1) numsG), numsOkr⟩) := by
  refine HeadOk.flat hm hcf hr numsI numsG _ (fun ρ hI => ⟨hI.1, hI.2.1⟩) (fun ρ hI hlt => ?_) (fun ρ hI he => ?_)
  · obtain ⟨h1, h2, h3, h4⟩ := hI
    simp only [lenN, L.den] at hlt
    have e1 : (ρ.sub numsS).e 0 = ρ.e 0 + 1 := add1 h1 hlt (by omega)
    have e2 : (ρ.sub numsS).l 1 = ρ.l 1 ++ numB ((ρ.l 0).getD (ρ.e 0).toNat 0) := rfl
    have e3 : (ρ.sub numsS).l 0 = ρ.l 0 := rfl
    refine ⟨fun b hb => ?_, fun _ => ⟨⟨by rw [e1]; omega, by rw [e1, e3]; omega, by rw [e3]; exact h3, ?_⟩, e1, rfl, ?_⟩⟩
    · have := ho b hb
      simp only [numsOks, List.mem_cons, List.not_mem_nil, or_false] at this
      have q1 : (B.lt (.len (.cat (.var 1) (numL (.get (.var 0) (.var 0))))) (.lit 1073741824)).den ρ = true := by
        refine ltT ?_
        show (((ρ.l 1 ++ numB _).length : Nat) : Int) < 1073741824
        rw [List.length_append, numB_len]; omega
      have q2 : (B.and (.not (.lt (.var 0) (.lit 0))) (.lt (.var 0) (.len (.var 0)))).den ρ = true := by
        show (!ltb (ρ.e 0) 0 && ltb (ρ.e 0) ((ρ.l 0).length : Nat)) = true
        rw [ltF h1, ltT hlt]; rfl
      rcases this with rfl | rfl | rfl
      · exact q1
      · exact q2
      · exact q2
    · rw [e1, e2, e3, List.length_append, numB_len]; omega
    · rw [e2]
      unfold numsG
      rw [numsL_den, numsL_den, restL_den, restL_den]
      show (ρ.l 1 ++ numB _) ++ numsM ((ρ.l 0).drop ((ρ.sub numsS).e 0).toNat) = ρ.l 1 ++ numsM ((ρ.l 0).drop (ρ.e 0).toNat)
      rw [e1, drop_at (d := 0) h1 hlt]
      simp only [numsM, List.flatMap_cons, List.append_assoc]
  · unfold numsG
    rw [numsL_den, restL_den]
    show numsM ((ρ.l 0).drop (ρ.e 0).toNat) = []
    have : (ρ.e 0).toNat = (ρ.l 0).length := by
      have : ρ.e 0 = ((ρ.l 0).length : Nat) := he
      omega
    rw [this, List.drop_length]; rfl
/-- none yet. -/
def nums0 : Sub := ⟨[.lit 0], [.var 0, .nil], [], [], .ix⟩
theorem numsI0 (ρ : Env) (r : LRes) {x slot : Nat} (hp : (T.sub nums0 (.leaf ⟨.exit x, rowFr slot 0 1 (.cat (.var 1) numsG), 1, rowOb 0 .u8 5 (.cat (.var 1) numsG), numsOkr⟩)).pick ρ = some r) (hok : okOk ρ r.ok) : numsI (ρ.sub nums0) := by
  cases hp
  have := hok _ (List.mem_cons_of_mem _ (List.mem_cons_of_mem _ (List.mem_cons_self ..)))
  rw [B.sub_den (Sub.noix_ok rfl)] at this
  have : ((ρ.l 0).length : Int) < 67108864 := ltb_ok this
  refine ⟨Int.le_refl _, ?_, ?_, ?_⟩
  · show (0 : Int) ≤ ((ρ.l 0).length : Nat); omega
  · show (ρ.l 0).length ≤ _; omega
  · show 0 + 8 * ((ρ.l 0).length - (0 : Int).toNat) ≤ _; simp; omega
def nums1H : LHead := ⟨[(3, .sl 0 0 (.lit 0) (.len (.var 1)) 1 true), (6, .fs 1 (.ints .i64 (.var 0))), (7, .int .i64 (.len (.var 0))), (8, ival 0)], 0, [1], [(0, ⟨.ints .u8 (.var 1), true, 5⟩)]⟩
def nums1Ds : List Nat := [8, 16, 3, 15, 14, 13, 12, 5, 11, 10, 9]
noncomputable def cfN1 : Cf := ⟨tabC [numC 128], lpC [], noMg⟩
theorem cfN1_ok : CfOk Pr cfN1 := cfOk_mk (all_cons num1_ok all_nil) all_nil
def numsRes (slot x : Nat) : T LRes := .leaf ⟨.exit x, rowFr slot 0 1 (.cat (.var 1) numsG), 1, rowOb 0 .u8 5 (.cat (.var 1) numsG), numsOkr⟩
theorem nums1L_ok : LConOk Pr ⟨212, 3, nums1Ds, nilFr nums1H nums0 1, 0, [], T.sub nums0 (numsRes 3 0)⟩ :=
  LConOk.nil (ob0 := []) (numsHead cfN1_ok (oks := numsOks) (fun b h => h) (by kernel_rfl)) nums0 1 rfl (by kernel_rfl) rfl rfl fun ρ r hp hok => numsI0 ρ r hp hok
theorem nums1_ok : ConOk Pr (numsC 212) :=
  Con.ofExec hm (cf := ⟨tabC [numC 128], lpC [⟨212, 3, nums1Ds, nilFr nums1H nums0 1, 0, [], T.sub nums0 (numsRes 3 0)⟩], noMg⟩) (cfOk_mk (all_cons num1_ok all_nil) (all_cons nums1L_ok all_nil)) (fuel := 100) (depth := 10) rfl (by kernel_rfl)
end Go.Proofs.YtmckhoaekbeijaaGreat.E
/- Rows one after the other: words. -/
namespace Go.Proofs.YtmckhoaekbeijaaGreat.E
open Go Go.RowKit
set_option maxRecDepth 100000
set_option linter.unusedVariables false
def opsIx : B := .and (.not (.lt (.var 0) (.lit 0))) (.lt (.var 0) (.cnt (.var 0)))
def llA (i : Nat) : V := .fs 1 (.recs 1 (.cnt (.var i)) (tB .u8 (.var i)))
theorem ll_step {l : List (List Int)} {i : Int} (h0 : 0 ≤ i) (h : i < (l.length : Nat)) : (l.drop i.toNat).flatten = l.getD i.toNat [] ++ (l.drop (i + 1).toNat).flatten := by
  rw [drop_at (d := []) h0 h, List.flatten_cons]
def catG : L := .join (restLL (.var 0) (.var 0))
theorem catG_den (ρ : Env) : catG.den ρ = ((ρ.ll 0).drop (ρ.e 0).toNat).flatten := by
  show ((restLL (.var 0) (.var 0)).den ρ).flatten = _
  rw [restLL_den]; rfl
def catS : Sub := ⟨[.bin .add .i64 (.var 0) (.lit 1)], [.cat (.var 0) (.at (.var 0) (.var 0))], [.var 0], [], .ix⟩
def catOks : List B := [.lt (.len (.cat (.var 0) (.at (.var 0) (.var 0)))) (.lit 1073741824), opsIx]
def cat0 : Sub := ⟨[.lit 0], [.nil], [.var 0], [], .ix⟩
end Go.Proofs.YtmckhoaekbeijaaGreat.E
/- Operations as bytes: contracts. -/
namespace Go.Proofs.YtmckhoaekbeijaaGreat.E
open Go Go.RowKit
set_option maxRecDepth 100000
set_option linter.unusedVariables false
def opsL (a : LL) : L := .app 16 .nil a
theorem opsL_den (ρ : Env) (a : LL) : (opsL a).den ρ = opsM (a.den ρ) := by
  show (opsM (a.den ρ)).map IntKind.u8.wrap = _
  exact opsM_wrap _
def opsA (i : Nat) : V := .fs 5 (.recs 5 (.cnt (.var i)) (tI .i64 5 (.var i)))
def opsC (f : FuncId) : Con := ⟨f, [opsA 0], .leaf (.fs 1 (.ints .u8 (opsL (.var 0))), [.lt (.cnt (.var 0)) (.lit 4611686018427387904), .lt (.len (opsL (.var 0))) (.lit 1073741824)])⟩
noncomputable def cfK : Cf := ⟨tabC [numC 128, numC 76], lpC [], noMg⟩
theorem cfK_ok : CfOk Pr cfK := cfOk_mk (all_cons num1_ok (all_cons num2_ok all_nil)) all_nil
def oprN (k : Nat) : L := numL (.get (.at (.var 0) (.var 0)) (.lit (.ofNat k)))
def oprX : L := .cat (oprN 0) (.cat (oprN 1) (.cat (oprN 2) (.cat (oprN 3) (oprN 4))))
def opsG : L := opsL (restLL (.var 0) (.var 0))
def opsS : Sub := ⟨[.bin .add .i64 (.var 0) (.lit 1)], [.nil, .cat (.var 1) oprX], [.var 0], [], .ix⟩
theorem oprX_den (ρ : Env) : oprX.den ρ = numsM ((List.range 5).map fun i => ((ρ.ll 0).getD (ρ.e 0).toNat []).getD i 0) := by
  simp [numsM, List.range_succ, List.flatMap_cons, oprN, numL_den, oprX, L.den, E.den, LL.den]
theorem numsM_len (l : List Int) : (numsM l).length = 8 * l.length := by
  unfold numsM
  induction l with
  | nil => rfl
  | cons a l ih => rw [List.flatMap_cons, List.length_append, ih, numB_len, List.length_cons]; omega
theorem opsM_len (l : List (List Int)) : (opsM l).length = 40 * l.length := by
  unfold opsM
  induction l with
  | nil => rfl
  | cons a l ih => rw [List.flatMap_cons, List.length_append, ih, numsM_len, List.length_map, List.length_range, List.length_cons]; omega
theorem opsG_step (ρ : Env) (h0 : 0 ≤ ρ.e 0) (h : ρ.e 0 < ((ρ.ll 0).length : Nat)) (e1 : (ρ.sub opsS).e 0 = ρ.e 0 + 1) : opsG.den ρ = oprX.den ρ ++ opsG.den (ρ.sub opsS) := by
  unfold opsG
  rw [opsL_den, opsL_den, restLL_den, restLL_den, oprX_den]
  show opsM ((ρ.ll 0).drop (ρ.e 0).toNat) = _ ++ opsM ((ρ.ll 0).drop ((ρ.sub opsS).e 0).toNat)
  rw [e1, drop_at (d := []) h0 h]
  simp only [opsM, List.flatMap_cons]
def opsOks : List B := opsIx :: [oprN 0, .cat (oprN 0) (oprN 1), .cat (oprN 0) (.cat (oprN 1) (oprN 2)), .cat (oprN 0) (.cat (oprN 1) (.cat (oprN 2) (oprN 3))), oprX].map fun X => .lt (.len (.cat (.var 1) X)) (.lit 1073741824)
theorem ops_oks {ρ : Env} (h : appI 0 1 (.cnt (.var 0)) opsG ρ) (hlt : ρ.e 0 < ((ρ.ll 0).length : Nat)) (e1 : (ρ.sub opsS).e 0 = ρ.e 0 + 1) {oks : List B} (ho : ∀ b ∈ oks, b ∈ opsOks) : okOk ρ oks := by
  intro b hb
  have h4 := h.2.2.2
  rw [opsG_step ρ h.1 hlt e1, oprX_den] at h4
  simp only [List.length_append, numsM_len, List.length_map, List.length_range] at h4
  rcases List.mem_cons.1 (ho b hb) with rfl | hb
  · exact ok_ix h.1 hlt
  · obtain ⟨X, hX, rfl⟩ := List.mem_map.1 hb
    refine ok_len (m := 1073741824) ?_
    simp only [List.mem_cons, List.not_mem_nil, or_false] at hX
    rcases hX with rfl | rfl | rfl | rfl | rfl <;> simp only [L.den, List.length_append, oprX, oprN, numL_den, numB_len] <;> omega
def ops1H : LHead := ⟨[(3, .sl 0 0 (.lit 0) (.len (.var 1)) 1 true), (8, opsA 0), (9, .int .i64 (.cnt (.var 0))), (10, ival 0)], 0, [7], [(0, ⟨.ints .u8 (.var 1), true, 5⟩)]⟩
def ops2H : LHead := ⟨[(0, opsA 0), (3, .sl 0 0 (.lit 0) (.len (.var 1)) 1 true), (4, ival 0)], 0, [7], [(0, ⟨.ints .u8 (.var 1), true, 5⟩)]⟩
def opsT (oks : List B) : T LEnd := .br (.lt (.var 0) (.cnt (.var 0))) (.leaf (.go opsS oks)) (.leaf (.out ⟨.exit 0, rowFr 3 0 1 (.var 1), 1, rowOb 0 .u8 5 (.var 1), []⟩))
theorem opsHead {f : FuncId} {H : LHead} {oks : List B} (hr : roundH Pr cfK 100 10 f 3 H [] [3] [0] = opsT oks) (ho : amongB opsOks oks = true) : HeadOk Pr f 3 H (appI 0 1 (.cnt (.var 0)) opsG) (appRes 3 0 1 0 1 .u8 5 opsG (appOk 0 1 (.cnt (.var 0)) opsG)) :=
  HeadOk.app hm cfK_ok hr opsG (fun _ => rfl) (fun ρ h0 hlt e1 => ⟨rfl, _, rfl, opsG_step ρ h0 hlt e1⟩) (fun ρ hI hlt e1 => ops_oks hI hlt e1 (amongB_ok ho)) fun ρ he => by
    unfold opsG
    rw [opsL_den, restLL_den]
    have he : ρ.e 0 = ((ρ.ll 0).length : Nat) := he
    show opsM ((ρ.ll 0).drop (ρ.e 0).toNat) = []
    rw [he, Int.toNat_natCast, List.drop_length]; rfl
def ops0 : Sub := ⟨[.lit 0], [.nil, .nil], [.var 0], [], .ix⟩
def opsLR : T LRes := T.sub ops0 (appRes 3 0 1 0 1 .u8 5 opsG (appOk 0 1 (.cnt (.var 0)) opsG))
noncomputable def ops1Ds : List Nat := (theDs Pr 197 3)
noncomputable def ops2Ds : List Nat := (theDs Pr 218 3)
theorem ops1L_ok : LConOk Pr ⟨197, 3, ops1Ds, nilFr ops1H ops0 1, 0, [], opsLR⟩ :=
  LConOk.nil (ob0 := []) (opsHead (oks := oksOf (roundH Pr cfK 100 10 197 3 ops1H [] [3] [0])) (by kernel_rfl) (by kernel_rfl)) ops0 1 rfl (by kernel_rfl) rfl rfl fun ρ r hp hok => appI_nil rfl ρ r hp hok
theorem ops2L_ok : LConOk Pr ⟨218, 3, ops2Ds, nilFr ops2H ops0 1, 0, [], opsLR⟩ :=
  LConOk.nil (ob0 := []) (opsHead (oks := oksOf (roundH Pr cfK 100 10 218 3 ops2H [] [3] [0])) (by kernel_rfl) (by kernel_rfl)) ops0 1 rfl (by kernel_rfl) rfl rfl fun ρ r hp hok => appI_nil rfl ρ r hp hok
theorem opsC_of {f : FuncId} {cf : Cf} (hcf : CfOk Pr cf) (h : shutT (exec Pr cf 100 10 f [opsA 0]) = .leaf (.fs 1 (.ints .u8 (.app 16 .nil (.var 0))), [.lt (.cnt (.var 0)) (.lit 4611686018427387904), .lt (.len (.app 16 .nil (.var 0))) (.lit 1073741824)])) : ConOk Pr (opsC f) := Con.ofExec hm hcf rfl h
noncomputable def cfO : Cf := ⟨tabC [numC 128, numC 76], lpC [⟨197, 3, ops1Ds, nilFr ops1H ops0 1, 0, [], opsLR⟩, ⟨218, 3, ops2Ds, nilFr ops2H ops0 1, 0, [], opsLR⟩], noMg⟩
theorem cfO_ok : CfOk Pr cfO := cfOk_mk (all_cons num1_ok (all_cons num2_ok all_nil)) (all_cons ops1L_ok (all_cons ops2L_ok all_nil))
theorem ops1_ok : ConOk Pr (opsC 197) := opsC_of cfO_ok (by kernel_rfl)
theorem ops2_ok : ConOk Pr (opsC 218) := opsC_of cfO_ok (by kernel_rfl)
end Go.Proofs.YtmckhoaekbeijaaGreat.E
/- Rows one after the other: contracts. -/
namespace Go.Proofs.YtmckhoaekbeijaaGreat.E
open Go Go.RowKit
set_option maxRecDepth 100000
set_option linter.unusedVariables false
/-! how many bytes -/
def cat1H : LHead := ⟨[(3, ival 1), (9, llA 0), (10, .int .i64 (.cnt (.var 0))), (11, ival 0)], 0, [], []⟩
def cat1S : Sub := ⟨[.bin .add .i64 (.var 0) (.lit 1), .bin .add .i64 (.var 1) (.len (.at (.var 0) (.var 0)))], [], [.var 0], [], .ix⟩
def cat1I (ρ : Env) : Prop := 0 ≤ ρ.e 0 ∧ ρ.e 0 ≤ ((ρ.ll 0).length : Nat) ∧ (ρ.ll 0).length < 4611686018427387904 ∧ 0 ≤ ρ.e 1 ∧ ρ.e 1 + (((ρ.ll 0).drop (ρ.e 0).toNat).flatten.length : Nat) < 4611686018427387904
def cat1E : E := .bin .add .i64 (.var 1) (.len (.join (restLL (.var 0) (.var 0))))
def cat1R (okr : List B) : T LRes := .leaf ⟨.exit 0, [(3, .int .i64 cat1E)], 0, [], okr⟩
theorem cat1_den (ρ : Env) : cat1E.den ρ = IntKind.i64.wrap (ρ.e 1 + (((ρ.ll 0).drop (ρ.e 0).toNat).flatten.length : Nat)) := by
  show IntKind.i64.wrap (ρ.e 1 + (((restLL (.var 0) (.var 0)).den ρ).flatten.length : Nat)) = _
  rw [restLL_den]; rfl
theorem cat1Head {okr : List B} (hr : roundH Pr cf0 100 10 209 3 cat1H [] [3] [] = .br (.lt (.var 0) (.cnt (.var 0))) (.br (.lt (.bin .add .i64 (.var 1) (.len (.at (.var 0) (.var 0)))) (.lit 0)) .dead (.leaf (.go cat1S [opsIx, opsIx]))) (.leaf (.out ⟨.exit 0, [(3, ival 1)], 0, [], []⟩))) : HeadOk Pr 209 3 cat1H cat1I (cat1R okr) := by
  refine HeadOk.of hm cf0_ok hr cat1I (fun ρ => (((ρ.ll 0).length : Nat) - ρ.e 0).toNat) _ (fun ρ _ x hx => by cases hx) fun ρ r hI hp => ?_
  cases hp
  obtain ⟨h1, h2, h3, h4, h5⟩ := hI
  simp only [T.pick]
  have hb : (B.lt (.var 0) (.cnt (.var 0))).den ρ = ltb (ρ.e 0) ((ρ.ll 0).length : Nat) := rfl
  rw [hb]
  cases hc : ltb (ρ.e 0) ((ρ.ll 0).length : Nat) with
  | true =>
    have hlt : ρ.e 0 < ((ρ.ll 0).length : Nat) := ltb_ok hc
    have hst := ll_step (l := ρ.ll 0) h1 hlt
    have hl := congrArg List.length hst
    rw [List.length_append] at hl
    have e0 : (ρ.sub cat1S).e 0 = ρ.e 0 + 1 := add1 h1 hlt (by omega)
    have e1 : (ρ.sub cat1S).e 1 = ρ.e 1 + (((ρ.ll 0).getD (ρ.e 0).toNat []).length : Nat) := by
      refine wrap_id .i64 _ ?_ ?_
      · show (-9223372036854775808 : Int) ≤ ρ.e 1 + (((ρ.ll 0).getD (ρ.e 0).toNat []).length : Nat); omega
      · show ρ.e 1 + (((ρ.ll 0).getD (ρ.e 0).toNat []).length : Nat) ≤ (9223372036854775807 : Int); omega
    have e1' : (E.bin .add .i64 (.var 1) (.len (.at (.var 0) (.var 0)))).den ρ = ρ.e 1 + (((ρ.ll 0).getD (ρ.e 0).toNat []).length : Nat) := e1
    have hb2 : (B.lt (.bin .add .i64 (.var 1) (.len (.at (.var 0) (.var 0)))) (.lit 0)).den ρ = false := by
      show ltb ((E.bin .add .i64 (.var 1) (.len (.at (.var 0) (.var 0)))).den ρ) 0 = false
      rw [e1']; exact ltF (by omega)
    rw [hb2]
    refine ⟨_, rfl, ?_, fun hs => ?_⟩
    · intro b hb
      simp only [List.mem_cons, List.not_mem_nil, or_false, or_self] at hb
      subst hb; exact ok_ix h1 hlt
    · have ell : (ρ.sub cat1S).ll 0 = ρ.ll 0 := rfl
      refine ⟨⟨by rw [e0]; omega, by rw [e0, ell]; omega, by rw [ell]; exact h3, by rw [e1]; omega, by rw [e0, e1, ell]; omega⟩, by rw [e0, ell]; omega, _, rfl, ?_⟩
      refine LRes.mk_imp (fr := [(3, .int .i64 (cat1E.sub cat1S))]) (fr' := [(3, .int .i64 cat1E)]) ⟨rfl, V.imp.int ?_, trivial⟩ trivial
      rw [E.sub_den hs, cat1_den, cat1_den, e0, e1, ell]
      congr 1; omega
  | false =>
    have hge : ((ρ.ll 0).length : Nat) ≤ ρ.e 0 := ltb_no hc
    refine ⟨_, rfl, ?_⟩
    refine ⟨fun b hb => (by cases hb), LRes.mk_imp (fr := [(3, ival 1)]) (fr' := [(3, .int .i64 cat1E)]) (ob := []) (ob' := []) ⟨rfl, V.imp.int ?_, trivial⟩ trivial, by simp⟩
    have : (ρ.e 0).toNat = (ρ.ll 0).length := by omega
    rw [cat1_den, this, List.drop_length]
    show ρ.e 1 = _
    rw [show ρ.e 1 + (((([] : List (List Int)).flatten).length : Nat) : Int) = ρ.e 1 by simp]
    exact (wrap_id .i64 _ (by show (-9223372036854775808 : Int) ≤ _; omega) (by show _ ≤ (9223372036854775807 : Int); omega)).symm
def cat10 : Sub := ⟨[.lit 0, .lit 0], [], [.var 0], [], .ix⟩
noncomputable def cat1Ds : List Nat := theDs Pr 209 3
def catOk : List B := [.lt (.cnt (.var 0)) (.lit 4611686018427387904), .lt (.len (.join (.var 0))) (.lit 1073741824)]
theorem catOk_of {ρ : Env} (h : okOk ρ catOk) : (ρ.ll 0).length < 4611686018427387904 ∧ (ρ.ll 0).flatten.length < 1073741824 := by
  have h1 := h _ (List.mem_cons_self ..)
  have h2 := h _ (List.mem_cons_of_mem _ (List.mem_cons_self ..))
  simp only [B.den, E.den, L.den, LL.den, ltb_eq, decide_eq_true_eq] at h1 h2
  exact ⟨by omega, by omega⟩
theorem cat1L_ok : LConOk Pr ⟨209, 3, cat1Ds, [(3, .int .i64 (.lit 0)), (9, llA 0), (10, .int .i64 (.cnt (.var 0))), (11, .int .i64 (.lit 0))], 0, [], .leaf ⟨.exit 0, [(3, .int .i64 (.len (.join (.var 0))))], 0, [], catOk⟩⟩ := by
  have h := LConOk.ofS (cat1Head (okr := catOk) (by kernel_rfl)) [] cat10 rfl (ds := cat1Ds) (by kernel_rfl) rfl rfl fun ρ r hp hok => by
    cases hp
    have hok : okOk ρ (catOk.map (·.sub cat10)) := hok
    rw [show catOk.map (·.sub cat10) = catOk by kernel_rfl] at hok
    obtain ⟨h1, h2⟩ := catOk_of (ρ := ρ) hok
    refine ⟨Int.le_refl _, ?_, h1, Int.le_refl _, ?_⟩
    · show (0 : Int) ≤ ((ρ.ll 0).length : Nat); omega
    · show (0 : Int) + (((ρ.ll 0).drop 0).flatten.length : Nat) < _
      rw [List.drop_zero]; omega
  have e : catOk.map (·.sub cat10) = catOk := by kernel_rfl
  refine LConOk.alt h rfl fun ρ r hp hok => ?_
  cases hp
  have hok : okOk ρ catOk := hok
  refine ⟨_, rfl, by rw [e]; exact hok, ?_⟩
  obtain ⟨h1, h2⟩ := catOk_of (ρ := ρ) hok
  refine LRes.mk_imp (fr := [(3, .int .i64 (cat1E.sub cat10))]) (fr' := [(3, .int .i64 (.len (.join (.var 0))))]) (ob := []) (ob' := []) ⟨rfl, V.imp.int ?_, trivial⟩ trivial
  rw [E.sub_den (Sub.noix_ok rfl), cat1_den]
  show IntKind.i64.wrap (0 + (((ρ.ll 0).drop 0).flatten.length : Nat)) = ((ρ.ll 0).flatten.length : Nat)
  rw [List.drop_zero, Int.zero_add]
  exact wrap_id .i64 _ (by show (-9223372036854775808 : Int) ≤ _; omega) (by show _ ≤ (9223372036854775807 : Int); omega)
/-! one behind the other -/
def catT (slot n0 n1 x : Nat) (oks : List B) : T LEnd := .br (.lt (.var 0) (.cnt (.var 0))) (.leaf (.go catS oks)) (.leaf (.out ⟨.exit x, rowFr slot n0 1 (.var 0), n1, rowOb n0 .u8 5 (.var 0), []⟩))
def catRes (slot n0 n1 x : Nat) : T LRes := appRes slot n0 n1 x 0 .u8 5 catG (appOk 0 0 (.cnt (.var 0)) catG)
theorem catHead {f id slot n0 n1 x : Nat} {H : LHead} {osl oob : List Nat} {oks : List B} (hr : roundH Pr cf0 100 10 f id H [] osl oob = catT slot n0 n1 x oks) (ho : amongB catOks oks = true) : HeadOk Pr f id H (appI 0 0 (.cnt (.var 0)) catG) (catRes slot n0 n1 x) := by
  have step : ∀ ρ : Env, 0 ≤ ρ.e 0 → ρ.e 0 < ((ρ.ll 0).length : Nat) → (ρ.sub catS).e 0 = ρ.e 0 + 1 → catG.den ρ = (ρ.ll 0).getD (ρ.e 0).toNat [] ++ catG.den (ρ.sub catS) := fun ρ h0 hlt e1 => by
    rw [catG_den, catG_den, ll_step h0 hlt, e1]; rfl
  refine HeadOk.app hm cf0_ok hr catG (fun _ => rfl) (fun ρ h0 hlt e1 => ⟨rfl, _, rfl, step ρ h0 hlt e1⟩) (fun ρ hI hlt e1 b hb => ?_) fun ρ he => ?_
  · have hb := amongB_ok ho b hb
    simp only [catOks, List.mem_cons, List.not_mem_nil, or_false] at hb
    rcases hb with rfl | rfl
    · refine ok_len (m := 1073741824) ?_
      have h4 := hI.2.2.2
      rw [step ρ hI.1 hlt e1, List.length_append] at h4
      show (ρ.l 0 ++ (ρ.ll 0).getD (ρ.e 0).toNat []).length < _
      rw [List.length_append]; omega
    · exact ok_ix hI.1 hlt
  · have he : ρ.e 0 = ((ρ.ll 0).length : Nat) := he
    rw [catG_den, he, Int.toNat_natCast, List.drop_length]; rfl
def cat2H (n : Nat) (pm : Nat) : LHead := ⟨[(6, .sl n 0 (.lit 0) (.len (.var 0)) 1 true), (25, llA 0), (26, .int .i64 (.cnt (.var 0))), (27, ival 0)], n, [pm], [(n, ⟨.ints .u8 (.var 0), true, 5⟩)]⟩
def joinH : LHead := ⟨[(0, llA 0), (3, .sl 0 0 (.lit 0) (.len (.var 0)) 1 true), (4, ival 0)], 0, [1], [(0, ⟨.ints .u8 (.var 0), true, 5⟩)]⟩
noncomputable def cat2Ds : List Nat := theDs Pr 209 11
noncomputable def joinDs : List Nat := theDs Pr 82 3
theorem joinL_ok : LConOk Pr ⟨82, 3, joinDs, nilFr joinH cat0 1, 0, [], T.sub cat0 (catRes 3 0 1 0)⟩ :=
  LConOk.nil (ob0 := []) (catHead (osl := [3]) (oob := [0]) (oks := oksOf (roundH Pr cf0 100 10 82 3 joinH [] [3] [0])) (by kernel_rfl) (by kernel_rfl)) cat0 1 rfl (by kernel_rfl) rfl rfl fun ρ r hp hok => appI_nil rfl ρ r hp hok
theorem cat2L_ok : LConOk Pr ⟨209, 11, cat2Ds, nilFr (cat2H 0 1) cat0 1, 0, [], T.sub cat0 (catRes 6 0 1 2)⟩ :=
  LConOk.nil (ob0 := []) (catHead (osl := [6]) (oob := [0]) (oks := oksOf (roundH Pr cf0 100 10 209 11 (cat2H 0 1) [] [6] [0])) (by kernel_rfl) (by kernel_rfl)) cat0 1 rfl (by kernel_rfl) rfl rfl fun ρ r hp hok => appI_nil rfl ρ r hp hok
theorem cat3L_ok : LConOk Pr ⟨209, 11, cat2Ds, ((cat2H 1 2).at [0]).map fun p => (p.1, p.2.sub cat0), 1, ((cat2H 1 2).obs [0]).map fun p => (p.1, p.2.sub cat0), T.sub cat0 (catRes 6 1 2 2)⟩ :=
  LConOk.ofS (catHead (osl := [6]) (oob := [1]) (oks := oksOf (roundH Pr cf0 100 10 209 11 (cat2H 1 2) [] [6] [1])) (by kernel_rfl) (by kernel_rfl)) [0] cat0 rfl (by kernel_rfl) rfl rfl fun ρ r hp hok => appI_nil rfl ρ r hp hok
noncomputable def cfC : Cf := ⟨noTab, lpC [⟨82, 3, joinDs, nilFr joinH cat0 1, 0, [], T.sub cat0 (catRes 3 0 1 0)⟩, ⟨209, 3, cat1Ds, [(3, .int .i64 (.lit 0)), (9, llA 0), (10, .int .i64 (.cnt (.var 0))), (11, .int .i64 (.lit 0))], 0, [], .leaf ⟨.exit 0, [(3, .int .i64 (.len (.join (.var 0))))], 0, [], catOk⟩⟩,
  ⟨209, 11, cat2Ds, nilFr (cat2H 0 1) cat0 1, 0, [], T.sub cat0 (catRes 6 0 1 2)⟩, ⟨209, 11, cat2Ds, ((cat2H 1 2).at [0]).map fun p => (p.1, p.2.sub cat0), 1, ((cat2H 1 2).obs [0]).map fun p => (p.1, p.2.sub cat0), T.sub cat0 (catRes 6 1 2 2)⟩], noMg⟩
theorem cfC_ok : CfOk Pr cfC := ⟨fun ρ => noTab_ok Pr ρ, fun ρ => lpC_ok (all_cons joinL_ok (all_cons cat1L_ok (all_cons cat2L_ok (all_cons cat3L_ok all_nil))))⟩
def joinF : FRes := ⟨.sl 0 0 (.lit 0) (.len (.join (.var 0))) 1 true, 1, [(0, ⟨.ints .u8 (.join (.var 0)), true, 5⟩)], catOk⟩
def joinC (f : FuncId) : FCon := ⟨f, [llA 0], 0, [], .leaf joinF⟩
theorem join2_ok : FConOk Pr (joinC 82) := FCon.ofExec hm cfC_ok (fuel := 100) (depth := 10) (by kernel_rfl)
def catSub : E := .bin .sub .i64 (.len (.join (.var 0))) (.lit 0)
def catOk1 : List B := catOk ++ [.not (.lt catSub (.lit 0)), .not (.lt catSub (.lit 0)), .lt catSub (.lit 1073741824)] ++ catOk
theorem join1_ok : FConOk Pr (joinC 209) := by
  have h : FConOk Pr ⟨209, [llA 0], 0, [], .br (.lt (.lit 0) catSub) (.leaf { joinF with ok := catOk1 }) (.leaf { joinF with ok := catOk ++ catOk })⟩ := FCon.ofExec hm cfC_ok (fuel := 100) (depth := 10) (by kernel_rfl)
  refine FCon.alt h fun ρ q' hp hok => ?_
  cases hp
  have hok : okOk ρ catOk := hok
  obtain ⟨h1, h2⟩ := catOk_of hok
  have e : catSub.den ρ = ((ρ.ll 0).flatten.length : Nat) := by
    show IntKind.i64.wrap ((((ρ.ll 0).flatten.length : Nat) : Int) - 0) = _
    rw [Int.sub_zero]
    exact wrap_id .i64 _ (by show (-9223372036854775808 : Int) ≤ _; omega) (by show _ ≤ (9223372036854775807 : Int); omega)
  have hb : ∀ b ∈ catOk1, b.den ρ = true := by
    intro b hb
    simp only [catOk1, List.mem_append, List.mem_cons, List.not_mem_nil, or_false] at hb
    have q1 : (B.not (.lt catSub (.lit 0))).den ρ = true := by
      show (!ltb (catSub.den ρ) 0) = true
      rw [e, ltF (by omega)]; rfl
    rcases hb with (hb | rfl | rfl | rfl) | hb
    · exact hok b hb
    · exact q1
    · exact q1
    · show ltb (catSub.den ρ) 1073741824 = true
      rw [e]; exact ltT (by omega)
    · exact hok b hb
  simp only [T.pick]
  cases (B.lt (.lit 0) catSub).den ρ with
  | true => exact ⟨_, rfl, hb, V.imp.refl _ _, rfl, fun id o e => ⟨o, e, rfl, rfl, Row.imp.refl _ _⟩⟩
  | false => exact ⟨_, rfl, fun b hb' => (List.mem_append.1 hb').elim (hok b) (hok b), V.imp.refl _ _, rfl, fun id o e => ⟨o, e, rfl, rfl, Row.imp.refl _ _⟩⟩
end Go.Proofs.YtmckhoaekbeijaaGreat.E
/- Words of 64 bits; a round, all rounds: contracts. -/
namespace Go.Proofs.YtmckhoaekbeijaaGreat.E
open Go Go.RowKit
set_option maxRecDepth 100000
set_option linter.unusedVariables false
theorem wrapU (n : Int) : IntKind.u64.wrap n = n % 18446744073709551616 := by
  simp [IntKind.wrap, IntKind.signed, IntKind.bits]
theorem wU_lt (x : Int) : wU x < 18446744073709551616 := by unfold wU; omega
theorem wU_nat {n : Nat} (h : n < 18446744073709551616) : wU (n : Int) = n := by unfold wU; omega
theorem wU_wrap (x : Int) : wU (IntKind.u64.wrap x) = wU x := by rw [wrapU]; unfold wU; omega
theorem wrapU_nat {n : Nat} (h : n < 18446744073709551616) : IntKind.u64.wrap (n : Int) = n := by rw [wrapU]; omega
theorem bvU (x : Int) : (BitVec.ofInt IntKind.u64.bits x).toNat = wU x := by
  show (BitVec.ofInt 64 x).toNat = wU x
  rw [BitVec.toNat_ofInt]; rfl
theorem xorU (a b : Int) : binI .xor .u64 a b = ((wU a ^^^ wU b : Nat) : Int) := by
  simp only [binI]
  rw [BitVec.toNat_xor, bvU, bvU]
  exact wrapU_nat (Nat.xor_lt_two_pow (n := 64) (wU_lt a) (wU_lt b))
theorem andU (a b : Int) : binI .and .u64 a b = ((wU a &&& wU b : Nat) : Int) := by
  simp only [binI]
  rw [BitVec.toNat_and, bvU, bvU]
  exact wrapU_nat (Nat.lt_of_le_of_lt Nat.and_le_left (wU_lt a))
theorem orU (a b : Int) : binI .or .u64 a b = ((wU a ||| wU b : Nat) : Int) := by
  simp only [binI]
  rw [BitVec.toNat_or, bvU, bvU]
  exact wrapU_nat (Nat.or_lt_two_pow (n := 64) (wU_lt a) (wU_lt b))
theorem notU (a : Int) : unI .xor .u64 a = ((notN (wU a) : Nat) : Int) := by
  have e : (BitVec.ofInt 64 18446744073709551615 ^^^ BitVec.ofInt 64 a) = ~~~ (BitVec.ofInt 64 a) := by
    have : BitVec.ofInt 64 18446744073709551615 = BitVec.allOnes 64 := by decide
    rw [this, BitVec.allOnes_xor]
  show IntKind.u64.wrap (((BitVec.ofInt 64 18446744073709551615 ^^^ BitVec.ofInt 64 a).toNat : Nat) : Int) = _
  rw [e, BitVec.toNat_not]
  have hb : (BitVec.ofInt 64 a).toNat = wU a := bvU a
  rw [hb]
  have := wU_lt a
  rw [wrapU_nat (by omega)]
  unfold notN
  norm_cast
structure Wd (ρ : Env) (e : E) (n : Nat) : Prop where
  den : e.den ρ = (n : Int)
  lt : n < 18446744073709551616
def Wv (ρ : Env) (e : E) (n : Nat) : Prop := wU (e.den ρ) = n
theorem Wd.v {ρ : Env} {e : E} {n : Nat} (h : Wd ρ e n) : Wv ρ e n := by unfold Wv; rw [h.den]; exact wU_nat h.lt
def xorE (a b : E) : E := .bin .xor .u64 a b
def andE (a b : E) : E := .bin .and .u64 a b
def orE (a b : E) : E := .bin .or .u64 a b
def notE (a : E) : E := .un .xor .u64 a
def shlE (a : E) (s : Nat) : E := .bin .shl .u64 a (.lit (.ofNat s))
def shrE (a : E) (s : Nat) : E := .bin .shr .u64 a (.lit (.ofNat s))
section
variable {ρ : Env} {a b : E} {n m : Nat}
theorem Wd.xor (ha : Wv ρ a n) (hb : Wv ρ b m) : Wd ρ (xorE a b) (n ^^^ m) := by
  unfold Wv at ha hb
  subst ha; subst hb
  exact ⟨xorU _ _, Nat.xor_lt_two_pow (n := 64) (wU_lt _) (wU_lt _)⟩
theorem Wd.and (ha : Wv ρ a n) (hb : Wv ρ b m) : Wd ρ (andE a b) (n &&& m) := by
  unfold Wv at ha hb
  subst ha; subst hb
  exact ⟨andU _ _, Nat.lt_of_le_of_lt Nat.and_le_left (wU_lt _)⟩
theorem Wd.or (ha : Wv ρ a n) (hb : Wv ρ b m) : Wd ρ (orE a b) (n ||| m) := by
  unfold Wv at ha hb
  subst ha; subst hb
  exact ⟨orU _ _, Nat.or_lt_two_pow (n := 64) (wU_lt _) (wU_lt _)⟩
theorem Wd.not (ha : Wv ρ a n) : Wd ρ (notE a) (notN n) := by
  unfold Wv at ha
  subst ha
  exact ⟨notU _, by unfold notN; omega⟩
theorem Wd.shl {s : Nat} (hs : s ≤ 64) (ha : Wv ρ a n) : Wd ρ (shlE a s) ((n <<< s) % 18446744073709551616) := by
  unfold Wv at ha
  subst ha
  refine ⟨?_, Nat.mod_lt _ (by decide)⟩
  show IntKind.u64.wrap (a.den ρ * 2 ^ (min ((s : Int)).toNat 64)) = _
  rw [wrapU, Int.toNat_natCast, Nat.min_eq_left hs, Nat.shiftLeft_eq]
  have e : (((wU (a.den ρ) * 2 ^ s % 18446744073709551616 : Nat)) : Int) = ((wU (a.den ρ) : Int) * 2 ^ s) % 18446744073709551616 := by
    rw [Int.natCast_emod, Int.natCast_mul, Int.natCast_pow]; rfl
  rw [e]
  have hw : ((wU (a.den ρ) : Nat) : Int) = a.den ρ % 18446744073709551616 := by unfold wU; omega
  rw [hw]
  conv => rhs; rw [Int.mul_emod, Int.emod_emod_of_dvd _ (Int.dvd_refl _), ← Int.mul_emod]
theorem Wd.shr {s : Nat} (hs : s ≤ 64) (ha : Wd ρ a n) : Wd ρ (shrE a s) (n >>> s) := by
  refine ⟨?_, Nat.lt_of_le_of_lt (Nat.shiftRight_le n s) ha.lt⟩
  show (a.den ρ).fdiv (2 ^ (min ((s : Int)).toNat 64)) = _
  rw [ha.den, Int.toNat_natCast, Nat.min_eq_left hs, Nat.shiftRight_eq_div_pow, Int.fdiv_eq_ediv_of_nonneg _ (Int.le_of_lt (Int.pow_pos (by decide))), Int.natCast_ediv, Int.natCast_pow]; rfl
end
def rotE (a : E) (s : Nat) : E := orE (shlE a (64 - s)) (shrE a s)
def sigE (x : E) (a b : Nat) : E := xorE (xorE x (rotE x a)) (rotE x b)
theorem Wd.rot {ρ : Env} {a : E} {n s : Nat} (hs : s ≤ 64) (h : Wd ρ a n) : Wd ρ (rotE a s) (rotN n s) := Wd.or (Wd.shl (by omega) h.v).v (Wd.shr hs h).v
theorem Wd.sig {ρ : Env} {x : E} {n a b : Nat} (ha : a ≤ 64) (hb : b ≤ 64) (h : Wd ρ x n) : Wd ρ (sigE x a b) (sigN n a b) := Wd.xor (Wd.xor h.v (h.rot ha).v).v (h.rot hb).v
/-- a round, in letters. -/
def roundE (k a b c d e : E) : List E :=
  let a1 := xorE a e
  let c1 := xorE (xorE c k) b
  let e1 := xorE e d
  let a2 := xorE a1 (andE (notE b) c1)
  let b2 := xorE b (andE (notE c1) d)
  let c2 := xorE c1 (andE (notE d) e1)
  let d2 := xorE d (andE (notE e1) a1)
  let e2 := xorE e1 (andE (notE a1) b)
  let a3 := xorE a2 e2
  let b3 := xorE b2 a2
  let c3 := notE c2
  let d3 := xorE d2 c2
  [sigE a3 19 28, sigE b3 61 39, sigE c3 1 6, sigE d3 10 17, sigE e2 7 41]
def Wds (ρ : Env) : List E → List Nat → Prop
  | [], [] => True
  | e :: es, n :: ns => Wd ρ e n ∧ Wds ρ es ns
  | _, _ => False
def w5N (x : W5) : List Nat := [x.a, x.b, x.c, x.d, x.e]
theorem roundE_den {ρ : Env} {k a b c d e : E} {k' : Nat} {x : W5} (hk : Wv ρ k k') (ha : Wv ρ a x.a) (hb : Wv ρ b x.b) (hc : Wv ρ c x.c) (hd : Wv ρ d x.d) (he : Wv ρ e x.e) : Wds ρ (roundE k a b c d e) (w5N (roundN k' x)) := by
  have a1 := Wd.xor ha he
  have c1 := Wd.xor (Wd.xor hc hk).v hb
  have e1 := Wd.xor he hd
  have a2 := Wd.xor a1.v (Wd.and (Wd.not hb).v c1.v).v
  have b2 := Wd.xor hb (Wd.and (Wd.not c1.v).v hd).v
  have c2 := Wd.xor c1.v (Wd.and (Wd.not hd).v e1.v).v
  have d2 := Wd.xor hd (Wd.and (Wd.not e1.v).v a1.v).v
  have e2 := Wd.xor e1.v (Wd.and (Wd.not a1.v).v hb).v
  have a3 := Wd.xor a2.v e2.v
  have b3 := Wd.xor b2.v a2.v
  have c3 := Wd.not c2.v
  have d3 := Wd.xor d2.v c2.v
  exact ⟨a3.sig (by decide) (by decide), b3.sig (by decide) (by decide), c3.sig (by decide) (by decide), d3.sig (by decide) (by decide), e2.sig (by decide) (by decide), trivial⟩
def lE (i : Nat) : E := .get (.var 0) (.lit (.ofNat i))
def cells5 : V := .agg ((List.range 5).map fun i => V.int .u64 (lE i))
def kE : E := .conv .u64 (.bin .sub .i64 (.lit 240) (.bin .mul .i64 (.lit 15) (.var 0)))
def roundEs : List E := roundE kE (lE 0) (lE 1) (lE 2) (lE 3) (lE 4)
def rndA : L := .cons (.var 0) (.sub (.var 0) 0 5)
def roundC (f : FuncId) : Con := ⟨f, [cells5, ival 0], .leaf (.agg ((appE 5 13 rndA .nil).map (V.int .u64)), [])⟩
theorem round_t : shutT (exec Pr cf0 200 12 271 [cells5, ival 0]) = .leaf (.agg (roundEs.map (V.int .u64)), []) := by kernel_rfl
theorem Wds_map {ρ : Env} : ∀ {es : List E} {ns : List Nat}, Wds ρ es ns → es.map (E.den ρ) = ns.map fun n : Nat => (n : Int)
  | [], [], _ => rfl
  | e :: es, n :: ns, h => by rw [List.map_cons, List.map_cons, h.1.den, Wds_map h.2]
  | [], _ :: _, h => h.elim
  | _ :: _, [], h => h.elim
theorem Wds_lt {ρ : Env} : ∀ {es : List E} {ns : List Nat}, Wds ρ es ns → ∀ n ∈ ns, n < 18446744073709551616
  | [], [], _, n, h => by cases h
  | e :: es, n :: ns, h, m, hm => by
    rcases List.mem_cons.1 hm with rfl | hm
    · exact h.1.lt
    · exact Wds_lt h.2 m hm
  | [], _ :: _, h, _, _ => h.elim
  | _ :: _, [], h, _, _ => h.elim
theorem subL5 (l : List Int) : w5 (subL l 0 5) = w5 l := by
  unfold w5 subL
  simp [List.range_succ]
theorem w5L_N (x : W5) : w5L x = (w5N x).map fun n : Nat => (n : Int) := rfl
theorem J13 (r : Int) (l : List Int) (h : ∀ n ∈ w5N (roundN (kR r) (w5 l)), n < 18446744073709551616) : J 13 (r :: l) [] = w5L (roundN (kR r) (w5 l)) := by
  show cutJ 5 ((w5L (roundN (kR r) (w5 l))).map IntKind.u64.wrap) = _
  have e : (w5L (roundN (kR r) (w5 l))).map IntKind.u64.wrap = w5L (roundN (kR r) (w5 l)) := by
    rw [w5L_N, List.map_map]
    exact List.map_congr_left fun n hn => wrapU_nat (h n hn)
  rw [e]
  show (List.range 5).map (fun i => (w5L (roundN (kR r) (w5 l))).getD i 0) = _
  exact range_getD (d := (0 : Int)) _ 5 rfl
theorem kE_den (ρ : Env) : Wv ρ kE (kR (ρ.e 0)) := by
  show wU (IntKind.u64.wrap (IntKind.i64.wrap (240 - IntKind.i64.wrap (15 * ρ.e 0)))) = _
  rw [wU_wrap]; rfl
theorem roundEs_den (ρ : Env) : Wds ρ roundEs (w5N (roundN (kR (ρ.e 0)) (w5 (ρ.l 0)))) := roundE_den (kE_den ρ) rfl rfl rfl rfl rfl
theorem rndC_ok : ConOk Pr (roundC 271) := by
  refine Con.alt (Con.ofExec hm cf0_ok rfl round_t) fun ρ r' bs' hp hb => ?_
  cases hp
  refine ⟨_, _, rfl, hb, V.imp.ints ?_⟩
  rw [appE_den ρ 5 13 rndA .nil rfl]
  show _ = J 13 (ρ.e 0 :: subL (ρ.l 0) 0 5) []
  have h := roundEs_den ρ
  rw [J13 _ _ (by rw [subL5]; exact Wds_lt h), subL5, Wds_map h]; rfl
/-! all rounds -/
def Lt5 (x : W5) : Prop := ∀ n ∈ w5N x, n < 18446744073709551616
theorem w5_lt (l : List Int) : Lt5 (w5 l) := by
  intro n hn
  unfold w5 w5N at hn
  simp only [List.mem_cons, List.not_mem_nil, or_false] at hn
  rcases hn with rfl | rfl | rfl | rfl | rfl <;> exact wU_lt _
theorem kR_lt (r : Int) : kR r < 18446744073709551616 := wU_lt _
def env5 (k : Nat) (x : W5) : Env := ⟨fun i => match i with | 0 => (k : Int) | 1 => x.a | 2 => x.b | 3 => x.c | 4 => x.d | _ => x.e, fun _ => [], fun _ => [], fun _ => false, 0⟩
theorem round_lt {k : Nat} {x : W5} (hk : k < 18446744073709551616) (hx : Lt5 x) : Lt5 (roundN k x) := by
  have h : Wds (env5 k x) (roundE (.var 0) (.var 1) (.var 2) (.var 3) (.var 4) (.var 5)) (w5N (roundN k x)) :=
    roundE_den (wU_nat hk) (wU_nat (hx _ (by simp [w5N]))) (wU_nat (hx _ (by simp [w5N]))) (wU_nat (hx _ (by simp [w5N]))) (wU_nat (hx _ (by simp [w5N]))) (wU_nat (hx _ (by simp [w5N])))
  exact Wds_lt h
theorem w5_id {x : W5} (hx : Lt5 x) : w5 (w5L x) = x := by
  obtain ⟨a, b, c, d, e⟩ := x
  have h := hx
  unfold Lt5 w5N at h
  simp only [List.mem_cons, List.not_mem_nil, or_false, forall_eq_or_imp, forall_eq] at h
  obtain ⟨h1, h2, h3, h4, h5⟩ := h
  show W5.mk (wU (a : Int)) (wU (b : Int)) (wU (c : Int)) (wU (d : Int)) (wU (e : Int)) = _
  rw [wU_nat h1, wU_nat h2, wU_nat h3, wU_nat h4, wU_nat h5]
theorem turnR_lt : ∀ (n : Nat) (r : Int) (x : W5), Lt5 x → Lt5 (turnR n r x)
  | 0, _, _, h => h
  | n + 1, r, x, h => turnR_lt n (r + 1) _ (round_lt (kR_lt r) h)
theorem wrap5 {x : W5} (hx : Lt5 x) : cutJ 5 ((w5L x).map IntKind.u64.wrap) = w5L x := by
  have e : (w5L x).map IntKind.u64.wrap = w5L x := by
    rw [w5L_N, List.map_map]
    exact List.map_congr_left fun n hn => wrapU_nat (hx n hn)
  rw [e]
  show (List.range 5).map (fun i => (w5L x).getD i 0) = _
  exact range_getD (d := (0 : Int)) _ 5 rfl
theorem J12 (l : List Int) : J 12 l [] = w5L (turnN (w5 l)) := wrap5 (turnR_lt _ _ _ (w5_lt l))
theorem J52 (r : Int) (l : List Int) : J 52 (r :: l) [] = w5L (turnR (12 - r).toNat r (w5 l)) := wrap5 (turnR_lt _ _ _ (w5_lt l))
def iter13 : Nat → Nat → L → L
  | 0, _, l => l
  | n + 1, r, l => iter13 n (r + 1) (.app 13 (.cons (.lit (.ofNat r)) l) .nil)
theorem iter13_den (ρ : Env) : ∀ (n r : Nat) (l : L) (x : W5), l.den ρ = w5L x → Lt5 x → (iter13 n r l).den ρ = w5L (turnR n r x)
  | 0, r, l, x, h, _ => h
  | n + 1, r, l, x, h, hx => by
    have e : (L.app 13 (.cons (.lit (.ofNat r)) l) .nil).den ρ = w5L (roundN (kR r) x) := by
      show J 13 ((r : Int) :: l.den ρ) [] = _
      have hw : w5 (l.den ρ) = x := by rw [h, w5_id hx]
      rw [J13 _ _ (by rw [hw]; exact round_lt (kR_lt _) hx), hw]
    exact iter13_den ρ n (r + 1) _ _ e (round_lt (kR_lt _) hx)
def turnA : L := .sub (.var 0) 0 5
def turnC (f : FuncId) : Con := ⟨f, [cells5], .leaf (.agg ((appE 5 12 turnA .nil).map (V.int .u64)), [])⟩
noncomputable def cfR5 : Cf := ⟨tabC [roundC 271], lpC [], noMg⟩
theorem cfR5_ok : CfOk Pr cfR5 := cfOk_mk (all_cons rndC_ok all_nil) all_nil
def iterEs : List E := (List.range 5).map fun i => .get (iter13 12 0 turnA) (.lit (.ofNat i))
theorem turn_t : shutT (exec Pr cfR5 200 12 195 [cells5]) = .leaf (.agg (iterEs.map (V.int .u64)), []) := by kernel_rfl
theorem iter_den (ρ : Env) : (iter13 12 0 turnA).den ρ = w5L (turnN (w5 (ρ.l 0))) := by
  have e : (L.app 13 (.cons (.lit (.ofNat 0)) turnA) .nil).den ρ = w5L (roundN (kR 0) (w5 (ρ.l 0))) := by
    show J 13 ((0 : Int) :: subL (ρ.l 0) 0 5) [] = _
    rw [J13 _ _ (by rw [subL5]; exact round_lt (kR_lt _) (w5_lt _)), subL5]
  exact iter13_den ρ 11 1 _ _ e (round_lt (kR_lt _) (w5_lt _))
theorem turn1_ok : ConOk Pr (turnC 195) := by
  refine Con.alt (Con.ofExec hm cfR5_ok rfl turn_t) fun ρ r' bs' hp hb => ?_
  cases hp
  refine ⟨_, _, rfl, hb, V.imp.ints ?_⟩
  rw [appE_den ρ 5 12 turnA .nil rfl]
  show _ = J 12 (subL (ρ.l 0) 0 5) []
  rw [J12, subL5]
  unfold iterEs
  rw [List.map_map]
  have : (fun i : Nat => (E.get (iter13 12 0 turnA) (.lit (.ofNat i))).den ρ) = fun i => (w5L (turnN (w5 (ρ.l 0)))).getD i 0 := by
    funext i
    show ((iter13 12 0 turnA).den ρ).getD ((i : Int)).toNat 0 = _
    rw [iter_den, Int.toNat_natCast]
  show (List.range 5).map (fun i : Nat => (E.get (iter13 12 0 turnA) (.lit (.ofNat i))).den ρ) = _
  rw [this]
  exact range_getD (d := (0 : Int)) _ 5 rfl
end Go.Proofs.YtmckhoaekbeijaaGreat.E
/- curiaref1.Turn: contract. -/
namespace Go.Proofs.YtmckhoaekbeijaaGreat.E
open Go Go.RowKit
set_option maxRecDepth 100000
set_option linter.unusedVariables false
def rotF (a : E) (s : Nat) : E := orE (shrE a s) (shlE a (64 - s))
def sigF (x : E) (a b : Nat) : E := xorE (xorE x (rotF x a)) (rotF x b)
theorem Wd.rotF {ρ : Env} {a : E} {n s : Nat} (hs : s ≤ 64) (h : Wd ρ a n) : Wd ρ (E.rotF a s) (rotN n s) := by
  have := Wd.or (Wd.shr hs h).v (Wd.shl (s := 64 - s) (by omega) h.v).v
  rw [Nat.or_comm] at this
  exact this
theorem Wd.sigF {ρ : Env} {x : E} {n a b : Nat} (ha : a ≤ 64) (hb : b ≤ 64) (h : Wd ρ x n) : Wd ρ (E.sigF x a b) (sigN n a b) := Wd.xor (Wd.xor h.v (h.rotF ha).v).v (h.rotF hb).v
def roundF (k a b c d e : E) : List E :=
  let a1 := xorE a e
  let c1 := xorE (xorE c k) b
  let e1 := xorE e d
  let a2 := xorE a1 (andE (notE b) c1)
  let b2 := xorE b (andE (notE c1) d)
  let c2 := xorE c1 (andE (notE d) e1)
  let d2 := xorE d (andE (notE e1) a1)
  let e2 := xorE e1 (andE (notE a1) b)
  let a3 := xorE a2 e2
  let b3 := xorE b2 a2
  let c3 := notE c2
  let d3 := xorE d2 c2
  [sigF a3 19 28, sigF b3 61 39, sigF c3 1 6, sigF d3 10 17, sigF e2 7 41]
theorem roundF_den {ρ : Env} {k a b c d e : E} {k' : Nat} {x : W5} (hk : Wv ρ k k') (ha : Wv ρ a x.a) (hb : Wv ρ b x.b) (hc : Wv ρ c x.c) (hd : Wv ρ d x.d) (he : Wv ρ e x.e) : Wds ρ (roundF k a b c d e) (w5N (roundN k' x)) := by
  have a1 := Wd.xor ha he
  have c1 := Wd.xor (Wd.xor hc hk).v hb
  have e1 := Wd.xor he hd
  have a2 := Wd.xor a1.v (Wd.and (Wd.not hb).v c1.v).v
  have b2 := Wd.xor hb (Wd.and (Wd.not c1.v).v hd).v
  have c2 := Wd.xor c1.v (Wd.and (Wd.not hd).v e1.v).v
  have d2 := Wd.xor hd (Wd.and (Wd.not e1.v).v a1.v).v
  have e2 := Wd.xor e1.v (Wd.and (Wd.not a1.v).v hb).v
  have a3 := Wd.xor a2.v e2.v
  have b3 := Wd.xor b2.v a2.v
  have c3 := Wd.not c2.v
  have d3 := Wd.xor d2.v c2.v
  exact ⟨a3.sigF (by decide) (by decide), b3.sigF (by decide) (by decide), c3.sigF (by decide) (by decide), d3.sigF (by decide) (by decide), e2.sigF (by decide) (by decide), trivial⟩
def tO (es : List E) : Ob := ⟨.any (es.map (V.int .u64)), true, 269⟩
def xE5 : List E := (List.range 5).map lE
def tE5 : List E := (List.range 5).map fun i => .var (1 + i)
def tuFr : List (Nat × V) := [(1, .ptr 0 (.lit 0) 0 0)]
def tuF2 : List (Nat × V) := [(2, .ptr 1 (.lit 0) 0 0)]
def tuH : LHead := ⟨tuFr ++ (tuF2 ++ [(3, ival 0)]), 2, [], [(0, tO xE5), (1, tO tE5)]⟩
def roundFs : List E := roundF kE (lE 0) (lE 1) (lE 2) (lE 3) (lE 4)
def tuS : Sub := ⟨.bin .add .i64 (.var 0) (.lit 1) :: tE5, [consL roundFs], [], [], .ix⟩
def tuA : L := .cons (.var 0) (.sub (.var 0) 0 5)
def tuT : T LEnd := .br (.lt (.var 0) (.lit 12)) (.leaf (.go tuS [])) (.leaf (.out ⟨.exit 0, tuFr ++ tuF2, 2, [(0, tO xE5), (1, tO tE5)], []⟩))
theorem tu_t : roundH Pr cf0 200 12 223 2 tuH [] [1, 2] [0, 1] = tuT := by kernel_rfl
def tuI (ρ : Env) : Prop := 0 ≤ ρ.e 0 ∧ ρ.e 0 ≤ 12 ∧ (ρ.e 0 = 0 ∨ (List.range 5).map (fun i => (ρ.l 0).getD i 0) = w5L (w5 (ρ.l 0)))
def tuR : T LRes := .leaf ⟨.exit 0, tuFr ++ tuF2, 2, [(0, tO (appE 5 52 tuA .nil)), (1, tO tE5)], [.eq (.var 0) (.lit 0)]⟩
theorem xE5_den (ρ : Env) : xE5.map (E.den ρ) = (List.range 5).map fun i => (ρ.l 0).getD i 0 := by
  unfold xE5
  rw [List.map_map]
  exact List.map_congr_left fun i _ => by
    show (ρ.l 0).getD ((i : Int)).toNat 0 = _
    rw [Int.toNat_natCast]
theorem tuA_den (ρ : Env) : (appE 5 52 tuA .nil).map (E.den ρ) = w5L (turnR (12 - ρ.e 0).toNat (ρ.e 0) (w5 (ρ.l 0))) := by
  rw [appE_den ρ 5 52 tuA .nil rfl]
  show J 52 (ρ.e 0 :: subL (ρ.l 0) 0 5) [] = _
  rw [J52, subL5]
theorem tO_imp {ρ : Env} {es ds : List E} (h : es.map (E.den ρ) = ds.map (E.den ρ)) : ImpOb ρ [(0, tO es), (1, tO tE5)] [(0, tO ds), (1, tO tE5)] := ⟨⟨rfl, rfl, rfl⟩, ints_imp h, ⟨rfl, rfl, rfl⟩, Row.imp.refl _ _, trivial⟩
theorem roundFs_den (ρ : Env) : Wds ρ roundFs (w5N (roundN (kR (ρ.e 0)) (w5 (ρ.l 0)))) := roundF_den (kE_den ρ) rfl rfl rfl rfl rfl
theorem tuHead : HeadOk Pr 223 2 tuH tuI tuR := by
  refine HeadOk.of hm cf0_ok tu_t tuI (fun ρ => (12 - ρ.e 0).toNat) _ (fun ρ _ x hx => by cases hx) fun ρ r hI hp => ?_
  cases hp
  obtain ⟨h1, h2, h3⟩ := hI
  unfold tuT
  simp only [T.pick]
  have hb : (B.lt (.var 0) (.lit 12)).den ρ = ltb (ρ.e 0) 12 := rfl
  rw [hb]
  cases hc : ltb (ρ.e 0) 12 with
  | true =>
    have hlt : ρ.e 0 < 12 := ltb_ok hc
    have e0 : (ρ.sub tuS).e 0 = ρ.e 0 + 1 := add1 h1 hlt (by omega)
    have el : (ρ.sub tuS).l 0 = w5L (roundN (kR (ρ.e 0)) (w5 (ρ.l 0))) := by
      show (consL roundFs).den ρ = _
      rw [consL_den, Wds_map (roundFs_den ρ)]; rfl
    have hl5 : Lt5 (roundN (kR (ρ.e 0)) (w5 (ρ.l 0))) := round_lt (kR_lt _) (w5_lt _)
    refine ⟨_, rfl, fun b hb => (by cases hb), fun hs => ?_⟩
    refine ⟨⟨by rw [e0]; omega, by rw [e0]; omega, .inr ?_⟩, by rw [e0]; omega, _, rfl, ?_⟩
    · rw [el, w5_id hl5]
      exact range_getD (d := (0 : Int)) _ 5 rfl
    · unfold LRes.subst
      refine LRes.mk_imp (ob := [(0, tO ((appE 5 52 tuA .nil).map fun e => e.sub tuS)), (1, tO tE5)]) (ImpFr.refl _ _) (tO_imp ?_)
      rw [List.map_map, tuA_den]
      have hf : (fun e : E => E.den ρ e) ∘ (fun e : E => e.sub tuS) = E.den (ρ.sub tuS) := funext fun e => E.sub_den hs ρ e
      show List.map ((fun e : E => E.den ρ e) ∘ fun e : E => e.sub tuS) _ = _
      rw [hf, tuA_den, e0, el, w5_id hl5]
      have hn : (12 - ρ.e 0).toNat = (12 - (ρ.e 0 + 1)).toNat + 1 := by omega
      rw [hn]; rfl
  | false =>
    have hge : 12 ≤ ρ.e 0 := ltb_no hc
    refine ⟨_, rfl, fun b hb => (by cases hb), LRes.mk_imp (ImpFr.refl _ _) (tO_imp ?_), by simp⟩
    rw [xE5_den, tuA_den]
    have hz : (12 - ρ.e 0).toNat = 0 := by omega
    rw [hz]
    rcases h3 with h3 | h3
    · omega
    · exact h3
def tu0 : Sub := ⟨.lit 0 :: tE5, [.var 0], [], [], .ix⟩
noncomputable def tuC : LCon := ⟨223, 2, theDs Pr 223 2, (tuH.at []).map fun p => (p.1, p.2.sub tu0), tuH.n0, (tuH.obs []).map fun p => (p.1, p.2.sub tu0), T.sub tu0 tuR⟩
theorem tuC_ok : LConOk Pr tuC := LConOk.ofS tuHead [] tu0 rfl (by kernel_rfl) rfl rfl fun ρ r hp hok => ⟨Int.le_refl _, by show (0 : Int) ≤ 12; decide, .inl rfl⟩
noncomputable def cfTu : Cf := ⟨noTab, lpC [tuC], noMg⟩
theorem cfTu_ok : CfOk Pr cfTu := ⟨fun ρ => noTab_ok Pr ρ, fun ρ => lpC_ok (all_cons tuC_ok all_nil)⟩
def turn2Es : List E := appE 5 52 (.cons (.lit 0) turnA) .nil
theorem turn2_t : shutT (exec Pr cfTu 200 12 223 [cells5]) = .leaf (.agg (turn2Es.map (V.int .u64)), []) := by kernel_rfl
theorem turn2_ok : ConOk Pr (turnC 223) := by
  refine Con.alt (Con.ofExec hm cfTu_ok rfl turn2_t) fun ρ r' bs' hp hb => ?_
  cases hp
  refine ⟨_, _, rfl, hb, V.imp.ints ?_⟩
  unfold turn2Es
  rw [appE_den ρ 5 12 turnA .nil rfl, appE_den ρ 5 52 _ .nil rfl]
  show J 52 (0 :: subL (ρ.l 0) 0 5) [] = J 12 (subL (ρ.l 0) 0 5) []
  rw [J52, J12]; rfl
end Go.Proofs.YtmckhoaekbeijaaGreat.E
/- Bytes as words; sums: contracts. -/
namespace Go.Proofs.YtmckhoaekbeijaaGreat.E
open Go Go.RowKit
set_option maxRecDepth 100000
set_option linter.unusedVariables false
def cvE (i : Nat) : E := .conv .u64 (lE i)
def wdE : Nat → E
  | 0 => orE (.lit 0) (cvE 0)
  | n + 1 => orE (shlE (wdE n) 8) (cvE (n + 1))
def wordA : L := .sub (.var 0) 0 8
def wordC (f : FuncId) : Con := ⟨f, [.fs 1 (.ints .u8 wordA)], .leaf (.int .u64 (.get (.app 14 wordA .nil) (.lit 0)), [])⟩
theorem wordN_app : ∀ (l : List Nat) (c n : Nat), wordN (l ++ [c]) n = ((wordN l n <<< 8) % 18446744073709551616) ||| c
  | [], c, n => rfl
  | d :: l, c, n => wordN_app l c _
theorem cvE_den (ρ : Env) (i : Nat) : Wv ρ (cvE i) (wU ((ρ.l 0).getD i 0)) := by
  show wU (IntKind.u64.wrap ((ρ.l 0).getD (Int.toNat (.ofNat i)) 0)) = _
  rw [wU_wrap]; rfl
theorem wdE_den (ρ : Env) : ∀ n : Nat, Wd ρ (wdE n) (wordN ((List.range (n + 1)).map fun i => wU ((ρ.l 0).getD i 0)) 0)
  | 0 => Wd.or (a := .lit 0) (n := 0) rfl (cvE_den ρ 0)
  | n + 1 => by
    rw [List.range_succ, List.map_append, List.map_cons, List.map_nil, wordN_app]
    exact Wd.or (Wd.shl (by decide) (wdE_den ρ n).v).v (cvE_den ρ (n + 1))
theorem J14 (l : List Int) (h : wordN (l.map wU) 0 < 18446744073709551616) : J 14 l [] = [((wordN (l.map wU) 0 : Nat) : Int)] := by
  show [IntKind.u64.wrap ((wordN (l.map wU) 0 : Nat) : Int)] = _
  rw [wrapU_nat h]
theorem subL8 (l : List Int) : (subL l 0 8).map wU = (List.range 8).map fun i => wU (l.getD i 0) := by
  unfold subL
  rw [List.map_map]
  refine List.map_congr_left fun i _ => ?_
  show wU (l.getD (0 + i) 0) = _
  rw [Nat.zero_add]
theorem word_t : shutT (exec Pr cf0 200 12 196 [.fs 1 (.ints .u8 wordA)]) = .leaf (.int .u64 (wdE 7), []) := by kernel_rfl
theorem word_ok : ConOk Pr (wordC 196) := by
  refine Con.alt (Con.ofExec hm cf0_ok rfl word_t) fun ρ r' bs' hp hb => ?_
  cases hp
  refine ⟨_, _, rfl, hb, V.imp.int ?_⟩
  have h := wdE_den ρ 7
  rw [h.den]
  show _ = (J 14 (subL (ρ.l 0) 0 8) []).getD 0 0
  rw [J14 _ (by rw [subL8]; exact h.lt), subL8]; rfl
theorem Spec.weakI {P : Program} {ρ : Env} {g : FuncId} {a a' : V} {r : V} {n n' : Nat} {σ σ' : Sto} (h : Spec P ρ g [a'] n σ r n' σ') (ha : V.imp ρ a a') : Spec P ρ g [a] n σ r n' σ' :=
  ⟨h.there, fun β xs w hS hA => h.calls β xs w hS (by
    cases xs with
    | nil => exact hA.elim
    | cons x xs => exact ⟨ha β _ hS.env hA.1, hA.2⟩)⟩
def wordD (f : FuncId) : Con := ⟨f, [.fs 1 (.ints .u8 (.var 0))], .leaf (.int .u64 (.get (.app 14 (.var 0) .nil) (.lit 0)), [.eq (.len (.var 0)) (.lit 8)])⟩
theorem sub8_id {l : List Int} (h : l.length = 8) : subL l 0 8 = l := by
  have e : subL l 0 8 = (List.range 8).map fun i => l.getD i 0 := by
    unfold subL
    refine List.map_congr_left fun i _ => ?_
    show l.getD (0 + i) 0 = _
    rw [Nat.zero_add]
  rw [e]; exact range_getD (d := (0 : Int)) l 8 h
theorem wordD_ok {f : FuncId} (hw : ConOk Pr (wordC f)) : ConOk Pr (wordD f) := by
  intro ρ r bs hp hb m
  cases hp
  have h1 : eqb (((ρ.l 0).length : Nat) : Int) 8 = true := hb _ (List.mem_cons_self ..)
  rw [eqb_eq, beq_iff_eq] at h1
  have e : subL (ρ.l 0) 0 8 = ρ.l 0 := sub8_id (by omega)
  have h := hw ρ _ [] rfl (fun b hb => by cases hb) m
  refine (Spec.weakI h (V.imp.fsInts ?_)).imp (V.imp.int ?_)
  · exact e.symm
  · show (J 14 (subL (ρ.l 0) 0 8) []).getD 0 0 = (J 14 (ρ.l 0) []).getD 0 0
    rw [e]
/-! sums of rows: the rows joined -/
def zV : V := .int .u8 (.lit 0)
def hO : Ob := ⟨.any (List.replicate 32 zV), true, 26⟩
def byO (l : L) : Ob := ⟨.ints .u8 l, true, 5⟩
def sjH : LHead := ⟨[(3, .sl 1 0 (.lit 0) (.len (.var 0)) 1 true), (10, llA 0), (11, .int .i64 (.cnt (.var 0))), (12, ival 0)], 1, [2], [(1, byO (.var 0)), (0, hO)]⟩
def sjR : T LRes := appResX 3 1 2 0 0 .u8 5 catG (appOk 0 0 (.cnt (.var 0)) catG) [] [(0, hO)]
theorem sjHead : HeadOk Pr 112 3 sjH (appI 0 0 (.cnt (.var 0)) catG) sjR := by
  have step : ∀ ρ : Env, 0 ≤ ρ.e 0 → ρ.e 0 < ((ρ.ll 0).length : Nat) → (ρ.sub catS).e 0 = ρ.e 0 + 1 → catG.den ρ = (ρ.ll 0).getD (ρ.e 0).toNat [] ++ catG.den (ρ.sub catS) := fun ρ h0 hlt e1 => by
    rw [catG_den, catG_den, ll_step h0 hlt, e1]; rfl
  refine HeadOk.appX hm cf0_ok (fuel := 100) (depth := 10) (osl := [3]) (oob := [1, 0]) (s := catS) (oks := oksOf (roundH Pr cf0 100 10 112 3 sjH [] [3] [1, 0])) (by kernel_rfl) (by kernel_rfl) (by kernel_rfl) catG (fun _ => rfl) (fun ρ h0 hlt e1 => ⟨rfl, _, rfl, step ρ h0 hlt e1⟩) (fun ρ hI hlt e1 b hb => ?_) fun ρ he => ?_
  · have ho : amongB catOks (oksOf (roundH Pr cf0 100 10 112 3 sjH [] [3] [1, 0])) = true := by kernel_rfl
    have hb := amongB_ok ho b hb
    simp only [catOks, List.mem_cons, List.not_mem_nil, or_false] at hb
    rcases hb with rfl | rfl
    · refine ok_len (m := 1073741824) ?_
      have h4 := hI.2.2.2
      rw [step ρ hI.1 hlt e1, List.length_append] at h4
      show (ρ.l 0 ++ (ρ.ll 0).getD (ρ.e 0).toNat []).length < _
      rw [List.length_append]; omega
    · exact ok_ix hI.1 hlt
  · have he : ρ.e 0 = ((ρ.ll 0).length : Nat) := he
    rw [catG_den, he, Int.toNat_natCast, List.drop_length]; rfl
noncomputable def sjC : LCon := ⟨112, 3, theDs Pr 112 3, nilFr sjH cat0 1, 1, [(0, hO)], T.sub cat0 sjR⟩
theorem sjC_ok : LConOk Pr sjC := LConOk.nil sjHead cat0 1 rfl (by kernel_rfl) rfl (by kernel_rfl) fun ρ r hp hok => appX_nil rfl ρ r hp hok
/-! the rows filled up -/
theorem padI_step {l : List Int} (h : l.length % 8 ≠ 0) : padI (l ++ [0]) = padI l := by
  unfold padI
  rw [List.length_append, List.append_assoc]
  congr 1
  obtain ⟨k, hk⟩ : ∃ k, (8 - l.length % 8) % 8 = k + 1 := ⟨(8 - l.length % 8) % 8 - 1, by omega⟩
  have h2 : (8 - (l.length + [(0 : Int)].length) % 8) % 8 = k := by
    show (8 - (l.length + 1) % 8) % 8 = k
    omega
  rw [h2, hk, List.replicate_succ]; rfl
theorem padI_done {l : List Int} (h : l.length % 8 = 0) : padI l = l := by
  unfold padI
  rw [h]; simp
theorem padI_len (l : List Int) : (padI l).length = l.length + (8 - l.length % 8) % 8 := by
  unfold padI
  rw [List.length_append, List.length_replicate]
theorem padI_mod (l : List Int) : (padI l).length % 8 = 0 := by rw [padI_len]; omega
def padL (l : L) : L := .app 54 l .nil
theorem padL_den (ρ : Env) (l : L) : (padL l).den ρ = padI (l.den ρ) := rfl
def pdH (n0 : Nat) : LHead := ⟨[(3, .sl n0 0 (.lit 0) (.len (.var 0)) 1 true)], n0, [n0 + 2], [(n0, byO (.var 0)), (0, hO)]⟩
def pdS : Sub := ⟨[], [.cat (.var 0) (.cons (.lit 0) .nil)], [], [], .ix⟩
def pdB : B := .eq (.bin .rem .i64 (.len (.var 0)) (.lit 8)) (.lit 0)
def pdT (n0 x : Nat) : T LEnd := .br pdB (.leaf (.out ⟨.exit x, rowFr 3 n0 1 (.var 0), n0 + 1, rowOb n0 .u8 5 (.var 0) ++ [(0, hO)], []⟩)) (.leaf (.go pdS [.lt (.len (.cat (.var 0) (.cons (.lit 0) .nil))) (.lit 1073741824)]))
def pdR (n0 x : Nat) : T LRes := .leaf ⟨.exit x, rowFr 3 n0 1 (padL (.var 0)), n0 + 1, rowOb n0 .u8 5 (padL (.var 0)) ++ [(0, hO)], [.lt (.len (padL (.var 0))) (.lit 1073741824)]⟩
theorem pdImp {ρ : Env} {l l' : L} {o : Out} {n0 n : Nat} {ok ok' : List B} (h : l.den ρ = l'.den ρ) : LRes.imp ρ ⟨o, rowFr 3 n0 1 l, n, rowOb n0 .u8 5 l ++ [(0, hO)], ok⟩ ⟨o, rowFr 3 n0 1 l', n, rowOb n0 .u8 5 l' ++ [(0, hO)], ok'⟩ :=
  LRes.mk_imp ⟨rfl, V.imp.sl rfl (by simp only [E.den, h]), trivial⟩ (ImpOb.app ⟨⟨rfl, rfl, rfl⟩, Row.imp.ints h, trivial⟩ (ImpOb.refl _ _))
theorem pdHead {f id n0 x : Nat} (hr : roundH Pr cf0 100 10 f id (pdH n0) [] [3] [n0, 0] = pdT n0 x) : HeadOk Pr f id (pdH n0) (fun ρ => (padI (ρ.l 0)).length < 1073741824) (pdR n0 x) := by
  refine HeadOk.of hm cf0_ok hr _ (fun ρ => (8 - (ρ.l 0).length % 8) % 8) _ (fun ρ _ x hx => by cases hx) fun ρ r hI hp => ?_
  cases hp
  unfold pdT
  simp only [T.pick]
  have hb : pdB.den ρ = eqb ((((ρ.l 0).length : Nat) : Int).tmod 8) 0 := rfl
  have hm8 : (((ρ.l 0).length : Nat) : Int).tmod 8 = (((ρ.l 0).length % 8 : Nat) : Int) := by
    rw [Int.tmod_eq_emod_of_nonneg (by omega)]; omega
  rw [hb, hm8, eqb_eq]
  by_cases hc : (ρ.l 0).length % 8 = 0
  · rw [hc]
    refine ⟨_, rfl, fun b hb => (by cases hb), pdImp ?_, by simp⟩
    rw [padL_den]
    exact (padI_done hc).symm
  · have hf : ((((ρ.l 0).length % 8 : Nat) : Int) == 0) = false := by
      rw [beq_eq_false_iff_ne]; omega
    rw [hf]
    have hl : (padI (ρ.l 0)).length = _ := padI_len _
    refine ⟨_, rfl, ?_, fun hs => ⟨?_, ?_, _, rfl, ?_⟩⟩
    · intro b hb
      simp only [List.mem_cons, List.not_mem_nil, or_false] at hb
      subst hb
      refine ok_len (m := 1073741824) ?_
      show (ρ.l 0 ++ [0]).length < _
      rw [List.length_append]
      show (ρ.l 0).length + 1 < _
      omega
    · show (padI (ρ.l 0 ++ [0])).length < _
      rw [padI_step hc]; exact hI
    · show (8 - (ρ.l 0 ++ [0]).length % 8) % 8 < (8 - (ρ.l 0).length % 8) % 8
      rw [List.length_append]
      show (8 - ((ρ.l 0).length + 1) % 8) % 8 < _
      omega
    · refine pdImp (l := (padL (.var 0)).sub' pdS) ?_
      rw [L.sub_den hs, padL_den, padL_den]
      exact padI_step hc
theorem pdI_of {n0 x : Nat} {s : Sub} (hs : s.noix = true) (ρ : Env) (r : LRes) (hp : (T.sub s (pdR n0 x)).pick ρ = some r) (hok : okOk ρ r.ok) : (padI ((ρ.sub s).l 0)).length < 1073741824 := by
  cases hp
  have h := hok _ (List.mem_map.2 ⟨_, List.mem_cons_self .., rfl⟩)
  rw [B.sub_den (Sub.noix_ok hs)] at h
  have h : ltb (((padI ((ρ.sub s).l 0)).length : Nat) : Int) 1073741824 = true := h
  have := ltb_ok h
  omega
def pd0 : Sub := ⟨[], [.var 0], [], [], .ix⟩
noncomputable def pdC (f id n0 x p : Nat) : LCon := ⟨f, id, theDs Pr f id, ((pdH n0).at [p]).map fun p => (p.1, p.2.sub pd0), n0, ((pdH n0).obs [p]).map fun p => (p.1, p.2.sub pd0), T.sub pd0 (pdR n0 x)⟩
theorem pd1_ok : LConOk Pr (pdC 112 8 4 2 3) := LConOk.ofS (pdHead (n0 := 4) (x := 2) (by kernel_rfl)) [3] pd0 rfl (by kernel_rfl) rfl (by kernel_rfl) fun ρ r hp hok => pdI_of (n0 := 4) (x := 2) rfl ρ r hp hok
theorem pd2_ok : LConOk Pr (pdC 155 2 5 0 4) := LConOk.ofS (pdHead (n0 := 5) (x := 0) (by kernel_rfl)) [4] pd0 rfl (by kernel_rfl) rfl (by kernel_rfl) fun ρ r hp hok => pdI_of (n0 := 5) (x := 0) rfl ρ r hp hok
end Go.Proofs.YtmckhoaekbeijaaGreat.E
/- Bytes taken in, eight at a time: contracts of both loops. -/
namespace Go.Proofs.YtmckhoaekbeijaaGreat.E
open Go Go.RowKit
set_option maxRecDepth 100000
set_option linter.unusedVariables false
theorem wordN_lt : ∀ (l : List Nat) (n : Nat), n < 18446744073709551616 → (∀ c ∈ l, c < 18446744073709551616) → wordN l n < 18446744073709551616
  | [], n, h, _ => h
  | c :: l, n, h, hl => wordN_lt l _ (Nat.or_lt_two_pow (n := 64) (Nat.mod_lt _ (by decide)) (hl c (List.mem_cons_self ..))) fun d hd => hl d (List.mem_cons_of_mem _ hd)
theorem wordU_lt (l : List Int) : wordN (l.map wU) 0 < 18446744073709551616 := wordN_lt _ _ (by decide) fun c hc => by
  obtain ⟨x, _, rfl⟩ := List.mem_map.1 hc
  exact wU_lt x
theorem J14' (l : List Int) : (J 14 l []).getD 0 0 = ((wordN (l.map wU) 0 : Nat) : Int) := by rw [J14 l (wordU_lt l)]; rfl
theorem turnN_lt {x : W5} (h : Lt5 x) : Lt5 (turnN x) := turnR_lt _ _ _ h
theorem absorb_lt : ∀ (k : Nat) (l : List Nat) (x : W5), (∀ c ∈ l, c < 18446744073709551616) → Lt5 x → Lt5 (absorbN k l x)
  | 0, _, _, _, h => h
  | k + 1, [], _, _, h => h
  | k + 1, c :: l, x, hl, h => by
    refine absorb_lt k _ _ (fun d hd => hl d (List.mem_of_mem_drop hd)) (turnN_lt ?_)
    intro n hn
    simp only [w5N, List.mem_cons, List.not_mem_nil, or_false] at hn
    rcases hn with rfl | rfl | rfl | rfl | rfl
    · exact Nat.xor_lt_two_pow (n := 64) (h _ (by simp [w5N])) (wordN_lt _ _ (by decide) fun d hd => hl d (List.mem_of_mem_take hd))
    all_goals exact h _ (by simp [w5N])
theorem absorb_step {rest : List Int} (x : W5) (h : 8 ≤ rest.length) (h8 : rest.length % 8 = 0) : absorbN (rest.length / 8) (rest.map wU) x = absorbN ((rest.drop 8).length / 8) ((rest.drop 8).map wU) (turnN ⟨x.a ^^^ wordN ((rest.take 8).map wU) 0, x.b, x.c, x.d, x.e⟩) := by
  have e : rest.length / 8 = (rest.drop 8).length / 8 + 1 := by rw [List.length_drop]; omega
  rw [e]
  have hne : rest.map wU ≠ [] := fun hc => by
    have := congrArg List.length hc
    rw [List.length_map] at this
    simp only [List.length_nil] at this
    omega
  obtain ⟨c, t, hct⟩ : ∃ c t, rest.map wU = c :: t := by
    cases hm : rest.map wU with
    | nil => exact (hne hm).elim
    | cons c t => exact ⟨c, t, rfl⟩
  rw [hct]
  show absorbN _ ((c :: t).drop 8) (turnN ⟨x.a ^^^ wordN ((c :: t).take 8) 0, x.b, x.c, x.d, x.e⟩) = _
  rw [← hct, List.map_drop, List.map_take]
theorem w5_sub (l r : List Int) : w5 (subL l 0 5 ++ r) = w5 l := by
  have h : (subL l 0 5).length = 5 := by unfold subL; simp
  have : w5 (subL l 0 5 ++ r) = w5 (subL l 0 5) := by
    unfold w5
    have e : ∀ i, i < 5 → (subL l 0 5 ++ r).getD i 0 = (subL l 0 5).getD i 0 := fun i hi => by
      rw [List.getD, List.getD, List.getElem?_append_left (by omega)]
    rw [e 0 (by omega), e 1 (by omega), e 2 (by omega), e 3 (by omega), e 4 (by omega)]
  rw [this, subL5]
theorem J53 (l r : List Int) : J 53 (subL l 0 5 ++ r) [] = w5L (absorbN (r.length / 8) (r.map wU) (w5 l)) := by
  have hl : (subL l 0 5).length = 5 := by unfold subL; simp
  have e : absorbN (((subL l 0 5 ++ r).length - 5) / 8) (((subL l 0 5 ++ r).drop 5).map wU) (w5 (subL l 0 5 ++ r)) = absorbN (r.length / 8) (r.map wU) (w5 l) := by
    have h1 : (subL l 0 5 ++ r).drop 5 = r := by rw [List.drop_append_of_le_length (by omega), List.drop_eq_nil_of_le (by omega)]; rfl
    have h2 : (subL l 0 5 ++ r).length - 5 = r.length := by rw [List.length_append, hl]; omega
    rw [h1, h2, w5_sub]
  show cutJ 5 ((w5L (absorbN (((subL l 0 5 ++ r).length - 5) / 8) (((subL l 0 5 ++ r).drop 5).map wU) (w5 (subL l 0 5 ++ r)))).map IntKind.u64.wrap) = _
  rw [e]
  exact wrap5 (absorb_lt _ _ _ (fun c hc => by obtain ⟨x, _, rfl⟩ := List.mem_map.1 hc; exact wU_lt x) (w5_lt l))
/-- a row of five words. -/
def W5ok (l : List Int) : Prop := (List.range 5).map (fun i => l.getD i 0) = w5L (w5 l)
theorem W5ok_of {x : W5} (h : Lt5 x) : W5ok (w5L x) := by
  unfold W5ok
  rw [w5_id h]
  exact range_getD (d := (0 : Int)) _ 5 rfl
/-! the program's loop -/
noncomputable def cfAb : Cf := ⟨tabC [turnC 195, turnC 223, wordD 196], lpC [], noMg⟩
theorem cfAb_ok : CfOk Pr cfAb := cfOk_mk (all_cons turn1_ok (all_cons turn2_ok (all_cons (wordD_ok word_ok) all_nil))) all_nil
def xL (i : Nat) : E := .get (.var 1) (.lit (.ofNat i))
def xEs : List E := (List.range 5).map xL
def abH : LHead := ⟨[(3, .sl 4 0 (.var 0) (.var 1) 1 false), (6, .ptr 5 (.lit 0) 0 0)], 6, [], [(0, hO), (4, byO (.var 0)), (5, tO xEs)]⟩
def abN : E := .len (.cat (.rep (.var 0) (.lit 0)) (.rep (.lit 8) (.lit 0)))
def abW : L := .cut (.var 0) (.var 0) abN
def abX (w : E) : L := .app 12 (.cons (xorE (xL 0) w) (.cons (xL 1) (.cons (xL 2) (.cons (xL 3) (.cons (xL 4) .nil))))) .nil
def abS : Sub := ⟨[abN, .bin .sub .i64 (.var 1) (.lit 8)], [.var 0, abX (.get (.app 14 abW .nil) (.lit 0))], [], [], .ix⟩
def abOks : List B := [.not (.lt (.var 1) (.lit 8)), .lt (.var 1) (.lit 4611686018427387904), .not (.lt (.var 0) (.lit 0)), .not (.lt abN (.var 0)), .not (.lt (.len (.var 0)) abN), .eq (.len abW) (.lit 8)]
def abO (es : List E) : List (Nat × Ob) := [(0, hO), (5, tO es)]
def abT (oks : List B) : T LEnd := .br (.lt (.lit 0) (.var 1)) (.leaf (.go abS oks)) (.leaf (.out ⟨.exit 4, [(6, .ptr 5 (.lit 0) 0 0)], 6, abO xEs, []⟩))
def abA : L := .cat (.sub (.var 1) 0 5) (.cut (.var 0) (.var 0) (.len (.var 0)))
def abI (ρ : Env) : Prop := 0 ≤ ρ.e 0 ∧ 0 ≤ ρ.e 1 ∧ ρ.e 0 + ρ.e 1 = ((ρ.l 0).length : Nat) ∧ ρ.e 1 % 8 = 0 ∧ (ρ.l 0).length < 1073741824 ∧ W5ok (ρ.l 1)
def abR (okr : List B) : T LRes := .leaf ⟨.exit 4, [(6, .ptr 5 (.lit 0) 0 0)], 6, abO (appE 5 53 abA .nil), okr⟩
theorem xEs_den (ρ : Env) : xEs.map (E.den ρ) = (List.range 5).map fun i => (ρ.l 1).getD i 0 := by
  unfold xEs
  rw [List.map_map]
  exact List.map_congr_left fun i _ => by
    show (ρ.l 1).getD ((i : Int)).toNat 0 = _
    rw [Int.toNat_natCast]
theorem restD (l : List Int) (i : Int) : (l.take ((l.length : Nat) : Int).toNat).drop i.toNat = l.drop i.toNat := by
  rw [Int.toNat_natCast, List.take_length]
theorem abA_den (ρ : Env) : (appE 5 53 abA .nil).map (E.den ρ) = w5L (absorbN (((ρ.l 0).drop (ρ.e 0).toNat).length / 8) (((ρ.l 0).drop (ρ.e 0).toNat).map wU) (w5 (ρ.l 1))) := by
  rw [appE_den ρ 5 53 abA .nil rfl]
  show J 53 (subL (ρ.l 1) 0 5 ++ ((ρ.l 0).take (((ρ.l 0).length : Nat) : Int).toNat).drop (ρ.e 0).toNat) [] = _
  rw [restD, J53]
theorem abImp {ρ : Env} {o : Out} {n : Nat} {fr : List (Nat × V)} {es ds : List E} {ok ok' : List B} (h : es.map (E.den ρ) = ds.map (E.den ρ)) : LRes.imp ρ ⟨o, fr, n, abO es, ok⟩ ⟨o, fr, n, abO ds, ok'⟩ :=
  LRes.mk_imp (ImpFr.refl _ _) ⟨⟨rfl, rfl, rfl⟩, Row.imp.refl _ _, ⟨rfl, rfl, rfl⟩, ints_imp h, trivial⟩
theorem abX_den {ρ : Env} {w : E} {n : Nat} (hw : Wv ρ w n) : (abX w).den ρ = w5L (turnN ⟨(w5 (ρ.l 1)).a ^^^ n, (w5 (ρ.l 1)).b, (w5 (ρ.l 1)).c, (w5 (ρ.l 1)).d, (w5 (ρ.l 1)).e⟩) := by
  show J 12 [(xorE (xL 0) w).den ρ, (ρ.l 1).getD 1 0, (ρ.l 1).getD 2 0, (ρ.l 1).getD 3 0, (ρ.l 1).getD 4 0] [] = _
  rw [J12]
  have hx : Wd ρ (xorE (xL 0) w) ((w5 (ρ.l 1)).a ^^^ n) := Wd.xor (show wU ((ρ.l 1).getD 0 0) = (w5 (ρ.l 1)).a from rfl) hw
  have e : w5 [(xorE (xL 0) w).den ρ, (ρ.l 1).getD 1 0, (ρ.l 1).getD 2 0, (ρ.l 1).getD 3 0, (ρ.l 1).getD 4 0] = ⟨(w5 (ρ.l 1)).a ^^^ n, (w5 (ρ.l 1)).b, (w5 (ρ.l 1)).c, (w5 (ρ.l 1)).d, (w5 (ρ.l 1)).e⟩ := by
    show W5.mk (wU ((xorE (xL 0) w).den ρ)) _ _ _ _ = _
    have h1 : wU ((xorE (xL 0) w).den ρ) = (w5 (ρ.l 1)).a ^^^ n := hx.v
    rw [h1]; rfl
  rw [e]
theorem xor_lt5 (l : List Int) {n : Nat} (hn : n < 18446744073709551616) : Lt5 ⟨(w5 l).a ^^^ n, (w5 l).b, (w5 l).c, (w5 l).d, (w5 l).e⟩ := by
  have h := w5_lt l
  intro m hm
  simp only [w5N, List.mem_cons, List.not_mem_nil, or_false] at hm
  rcases hm with rfl | rfl | rfl | rfl | rfl
  · exact Nat.xor_lt_two_pow (n := 64) (h _ (by simp [w5N])) hn
  all_goals exact h _ (by simp [w5N])
theorem abN_den {ρ : Env} (h : 0 ≤ ρ.e 0) : abN.den ρ = ρ.e 0 + 8 := by
  show (((List.replicate (ρ.e 0).toNat (0 : Int) ++ List.replicate 8 (0 : Int)).length : Nat) : Int) = _
  rw [List.length_append, List.length_replicate, List.length_replicate]; omega
theorem abW_den {ρ : Env} (h : 0 ≤ ρ.e 0) : abW.den ρ = ((ρ.l 0).drop (ρ.e 0).toNat).take 8 := by
  show ((ρ.l 0).take (abN.den ρ).toNat).drop (ρ.e 0).toNat = _
  rw [abN_den h, show (ρ.e 0 + 8).toNat = (ρ.e 0).toNat + 8 by omega, List.drop_take]
  congr 1; omega
theorem abHead {okr : List B} {oks : List B} (hr : roundH Pr cfAb 200 12 112 11 abH [] [6] [0, 5] = abT oks) (ho : amongB abOks oks = true) : HeadOk Pr 112 11 abH abI (abR okr) := by
  refine HeadOk.of hm cfAb_ok hr abI (fun ρ => (ρ.e 1).toNat) _ (fun ρ _ x hx => by cases hx) fun ρ r hI hp => ?_
  cases hp
  obtain ⟨h1, h2, h3, h4, h5, h6⟩ := hI
  unfold abT
  simp only [T.pick]
  have hb : (B.lt (.lit 0) (.var 1)).den ρ = ltb 0 (ρ.e 1) := rfl
  rw [hb]
  have hlen : ((ρ.l 0).drop (ρ.e 0).toNat).length = (ρ.e 1).toNat := by rw [List.length_drop]; omega
  cases hc : ltb 0 (ρ.e 1) with
  | true =>
    have hlt : 0 < ρ.e 1 := ltb_ok hc
    have hn := abN_den h1
    have hW := abW_den h1
    have hwl : (abW.den ρ).length = 8 := by rw [hW, List.length_take, hlen]; omega
    have e0 : (ρ.sub abS).e 0 = ρ.e 0 + 8 := hn
    have e1 : (ρ.sub abS).e 1 = ρ.e 1 - 8 := by
      show IntKind.i64.wrap (ρ.e 1 - 8) = _
      exact wrap_id .i64 _ (by show (-9223372036854775808 : Int) ≤ _; omega) (by show _ ≤ (9223372036854775807 : Int); omega)
    have el : (ρ.sub abS).l 0 = ρ.l 0 := rfl
    have hw : Wv ρ (.get (.app 14 abW .nil) (.lit 0)) (wordN ((abW.den ρ).map wU) 0) := by
      show wU ((J 14 (abW.den ρ) []).getD 0 0) = _
      rw [J14']; exact wU_nat (wordU_lt _)
    have hx : (ρ.sub abS).l 1 = w5L (turnN ⟨(w5 (ρ.l 1)).a ^^^ wordN ((abW.den ρ).map wU) 0, (w5 (ρ.l 1)).b, (w5 (ρ.l 1)).c, (w5 (ρ.l 1)).d, (w5 (ρ.l 1)).e⟩) := abX_den hw
    have hl5 := turnN_lt (xor_lt5 (ρ.l 1) (wordU_lt (abW.den ρ)))
    refine ⟨_, rfl, ?_, fun hs => ⟨⟨by rw [e0]; omega, by rw [e1]; omega, by rw [e0, e1, el]; omega, by rw [e1]; omega, by rw [el]; exact h5, by rw [hx]; exact W5ok_of hl5⟩, by rw [e1]; omega, _, rfl, ?_⟩⟩
    · intro b hb
      have hb := amongB_ok ho b hb
      simp only [abOks, List.mem_cons, List.not_mem_nil, or_false] at hb
      rcases hb with rfl | rfl | rfl | rfl | rfl | rfl
      · show (!ltb (ρ.e 1) 8) = true
        rw [ltF (by omega)]; rfl
      · exact ltT (by show ρ.e 1 < (4611686018427387904 : Int); omega)
      · show (!ltb (ρ.e 0) 0) = true
        rw [ltF h1]; rfl
      · show (!ltb (abN.den ρ) (ρ.e 0)) = true
        rw [hn, ltF (by omega)]; rfl
      · show (!ltb (((ρ.l 0).length : Nat) : Int) (abN.den ρ)) = true
        rw [hn, ltF (by omega)]; rfl
      · show eqb (((abW.den ρ).length : Nat) : Int) 8 = true
        rw [hwl]; rfl
    · unfold LRes.subst
      refine abImp (es := (appE 5 53 abA .nil).map fun e => e.sub abS) ?_
      rw [List.map_map, abA_den]
      have hf : (fun e : E => E.den ρ e) ∘ (fun e : E => e.sub abS) = E.den (ρ.sub abS) := funext fun e => E.sub_den hs ρ e
      show List.map ((fun e : E => E.den ρ e) ∘ fun e : E => e.sub abS) _ = _
      rw [hf, abA_den, e0, el, hx, w5_id hl5]
      have hd : (ρ.l 0).drop (ρ.e 0 + 8).toNat = ((ρ.l 0).drop (ρ.e 0).toNat).drop 8 := by
        rw [List.drop_drop]; congr 1; omega
      rw [hd, absorb_step (w5 (ρ.l 1)) (rest := (ρ.l 0).drop (ρ.e 0).toNat) (by omega) (by omega), ← hW]
  | false =>
    have hge : ρ.e 1 ≤ 0 := ltb_no hc
    refine ⟨_, rfl, fun b hb => (by cases hb), abImp ?_, by simp⟩
    rw [xEs_den, abA_den, hlen]
    have hz : (ρ.e 1).toNat = 0 := by omega
    rw [hz]
    exact h6
/-- another frame at the start, which says more. -/
theorem LConOk.start {P : Program} {c : LCon} (h : LConOk P c) {fr' : List (Nat × V)} (hf : ∀ ρ, Fm.imp ρ (fmOf (frOf fr')) (fmOf (frOf c.fr))) : LConOk P { c with fr := fr' } := by
  obtain ⟨nt, a, h1, h2, h3⟩ := h
  refine ⟨nt, a, h1, h2, fun ρ r hp => ⟨(h3 ρ r hp).1, fun hok => ?_⟩⟩
  obtain ⟨k, hk⟩ := (h3 ρ r hp).2 hok
  exact ⟨k, TR.imp hk (hf ρ) (Sto.imp.refl _ _) (Fm.imp.refl _ _) (Sto.imp.refl _ _)⟩
theorem V.imp.topF {ρ : Env} {id co z : Nat} {off len : E} : V.imp ρ (.sl id co off len z true) (.sl id co off len z false) := fun β x _ hr => by
  have hr : R0 β (.sl id co off len z true) x := hr
  obtain ⟨q, hq, h0, h⟩ := hr
  have : R0 β (.sl id co off len z false) x := by
    refine ⟨q, hq, h0, ?_⟩
    rcases h with ⟨p, d, c, h1, h2, h3, h4, h5⟩ | h
    · refine .inl ⟨p, d, c, h1, h2, ?_, h4, fun e => by cases e⟩
      rcases h3 with h3 | h3
      · exact .inl h3
      · cases h3.2
    · exact .inr h
  exact this
/-- the words at the beginning. -/
def x0N : W5 := turnN ⟨32, 0, 0, 0, 0⟩
def x0Es : List E := (w5L x0N).map E.lit
theorem x0_lt : Lt5 x0N := turnN_lt (fun n hn => by simp only [w5N, List.mem_cons, List.not_mem_nil, or_false] at hn; rcases hn with rfl | rfl | rfl | rfl | rfl <;> decide)
theorem x0_den (ρ : Env) : (consL x0Es).den ρ = w5L x0N := by
  rw [consL_den]
  unfold x0Es
  rw [List.map_map]
  exact List.map_id _
def absA : L := .var 0
theorem J55 (l : List Int) : J 55 l [] = w5L (absorbN (l.length / 8) (l.map wU) x0N) := wrap5 (absorb_lt _ _ _ (fun c hc => by obtain ⟨x, _, rfl⟩ := List.mem_map.1 hc; exact wU_lt x) x0_lt)
def absOk : List B := [.lt (.len (.var 0)) (.lit 1073741824), .eq (.bin .rem .i64 (.len (.var 0)) (.lit 8)) (.lit 0)]
theorem absOk_of {ρ : Env} (h : okOk ρ absOk) : (ρ.l 0).length < 1073741824 ∧ (ρ.l 0).length % 8 = 0 := by
  have h1 := h _ (List.mem_cons_self ..)
  have h2 := h _ (List.mem_cons_of_mem _ (List.mem_cons_self ..))
  have h1 : ltb (((ρ.l 0).length : Nat) : Int) 1073741824 = true := h1
  have h2 : eqb ((((ρ.l 0).length : Nat) : Int).tmod 8) 0 = true := h2
  have h1 := ltb_ok h1
  rw [eqb_eq, beq_iff_eq, Int.tmod_eq_emod_of_nonneg (by omega)] at h2
  exact ⟨by omega, by omega⟩
def ab0 : Sub := ⟨[.lit 0, .len (.var 0)], [.var 0, consL x0Es], [], [], .ix⟩
def abFr0 : List (Nat × V) := [(3, .sl 4 0 (.lit 0) (.len (.var 0)) 1 true), (6, .ptr 5 (.lit 0) 0 0)]
def abOb0 : List (Nat × Ob) := [(0, hO), (4, byO (.var 0)), (5, tO x0Es)]
def absR (x : Nat) (fr : List (Nat × V)) (n id : Nat) : T LRes := .leaf ⟨.exit x, fr, n, [(0, hO), (id, tO (appE 5 55 (.var 0) .nil))], absOk⟩
noncomputable def abC : LCon := ⟨112, 11, theDs Pr 112 11, abFr0, 6, abOb0, absR 4 [(6, .ptr 5 (.lit 0) 0 0)] 6 5⟩
theorem J55_53 (l : List Int) {x : List Int} (hx : x = w5L x0N) : J 53 (subL x 0 5 ++ l) [] = J 55 l [] := by
  rw [J53, J55, hx, w5_id x0_lt]
theorem abC_ok : LConOk Pr abC := by
  have h0 := LConOk.ofS (abHead (okr := absOk) (oks := oksOf (roundH Pr cfAb 200 12 112 11 abH [] [6] [0, 5])) (by kernel_rfl) (by kernel_rfl)) [] ab0 rfl (ds := theDs Pr 112 11) (by kernel_rfl) rfl (by kernel_rfl) fun ρ r hp hok => by
    cases hp
    have hok : okOk ρ (absOk.map (·.sub ab0)) := hok
    have hok : okOk (ρ.sub ab0) absOk := fun b hb => by rw [← B.sub_den (Sub.noix_ok rfl)]; exact hok _ (List.mem_map.2 ⟨b, hb, rfl⟩)
    obtain ⟨k1, k2⟩ := absOk_of hok
    refine ⟨Int.le_refl _, ?_, ?_, ?_, k1, ?_⟩
    · show (0 : Int) ≤ (((ρ.l 0).length : Nat) : Int); omega
    · show (0 : Int) + (((ρ.l 0).length : Nat) : Int) = _; rw [Int.zero_add]; rfl
    · show (((ρ.l 0).length : Nat) : Int) % 8 = 0
      have k2 : (ρ.l 0).length % 8 = 0 := k2
      omega
    · show W5ok ((consL x0Es).den ρ)
      rw [x0_den]; exact W5ok_of x0_lt
  have h1 : LConOk Pr ⟨112, 11, theDs Pr 112 11, (abH.at []).map fun p => (p.1, p.2.sub ab0), 6, abOb0, absR 4 [(6, .ptr 5 (.lit 0) 0 0)] 6 5⟩ := by
    have eob : ((abH.obs []).map fun p => (p.1, p.2.sub ab0)) = abOb0 := by kernel_rfl
    have h0 := h0
    rw [eob] at h0
    refine LConOk.alt h0 rfl fun ρ r' hp hok => ?_
    cases hp
    have e : (absOk.map (·.sub ab0)) = absOk := by kernel_rfl
    refine ⟨_, rfl, by show okOk ρ (absOk.map (·.sub ab0)); rw [e]; exact hok, ?_⟩
    refine abImp (es := (appE 5 53 abA .nil).map fun e => e.sub ab0) ?_
    rw [appE_den ρ 5 55 (.var 0) .nil rfl]
    have ha : ((appE 5 53 abA .nil).map fun e => e.sub ab0).map (E.den ρ) = (appE 5 53 abA .nil).map (E.den (ρ.sub ab0)) := by
      rw [List.map_map]
      exact List.map_congr_left fun e _ => E.sub_den (Sub.noix_ok rfl) ρ e
    have ha2 : List.map (E.den ρ) (List.map (fun e => e.sub ab0) (appE 5 53 abA .nil)) = J 55 (ρ.l 0) [] := by
      rw [ha, abA_den]
      have e1 : (ρ.sub ab0).l 1 = w5L x0N := x0_den ρ
      have e2 : (ρ.sub ab0).l 0 = ρ.l 0 := rfl
      have e3 : (ρ.sub ab0).e 0 = 0 := rfl
      rw [e1, e2, e3, w5_id x0_lt, J55]; rfl
    exact ha2
  refine LConOk.start h1 fun ρ t => ?_
  have : (abH.at []).map (fun p => (p.1, p.2.sub ab0)) = [(3, .sl 4 0 (.lit 0) (.len (.var 0)) 1 false), (6, .ptr 5 (.lit 0) 0 0)] := by kernel_rfl
  rw [this]
  unfold abFr0 fmOf
  simp only [frOf, Tr.get_put]
  by_cases e3 : t = 3
  · rw [if_pos e3, if_pos e3]; exact V.imp.topF
  · rw [if_neg e3, if_neg e3]; exact V.imp.refl _ _
/-! the reference's loop -/
def cvF (k : Nat) : E := .conv .u64 (.get (.var 0) (.bin .add .i64 (.var 0) (.lit (.ofNat k))))
def wdF : Nat → E
  | 0 => orE (.lit 0) (cvF 0)
  | n + 1 => orE (shlE (wdF n) 8) (cvF (n + 1))
def abH2 : LHead := ⟨[(3, .sl 5 0 (.lit 0) (.len (.var 0)) 1 true), (4, .ptr 6 (.lit 0) 0 0), (5, ival 0)], 7, [], [(0, hO), (5, byO (.var 0)), (6, tO xEs)]⟩
def abS2 : Sub := ⟨[.bin .add .i64 (.var 0) (.lit 8)], [.var 0, abX (wdF 7)], [], [], .ix⟩
def abO2 (es : List E) : List (Nat × Ob) := [(0, hO), (6, tO es)]
def abT2 (oks : List B) : T LEnd := .br (.lt (.var 0) (.len (.var 0))) (.leaf (.go abS2 oks)) (.leaf (.out ⟨.exit 2, [(4, .ptr 6 (.lit 0) 0 0)], 7, abO2 xEs, []⟩))
def abOks2 : List B := (List.range 8).map fun k => .and (.not (.lt (.bin .add .i64 (.var 0) (.lit (.ofNat k))) (.lit 0))) (.lt (.bin .add .i64 (.var 0) (.lit (.ofNat k))) (.len (.var 0)))
def abI2 (ρ : Env) : Prop := 0 ≤ ρ.e 0 ∧ ρ.e 0 ≤ ((ρ.l 0).length : Nat) ∧ (((ρ.l 0).length : Nat) - ρ.e 0) % 8 = 0 ∧ (ρ.l 0).length < 1073741824 ∧ W5ok (ρ.l 1)
def abR2 (okr : List B) : T LRes := .leaf ⟨.exit 2, [(4, .ptr 6 (.lit 0) 0 0)], 7, abO2 (appE 5 53 abA .nil), okr⟩
theorem abImp2 {ρ : Env} {o : Out} {n : Nat} {fr : List (Nat × V)} {es ds : List E} {ok ok' : List B} (h : es.map (E.den ρ) = ds.map (E.den ρ)) : LRes.imp ρ ⟨o, fr, n, abO2 es, ok⟩ ⟨o, fr, n, abO2 ds, ok'⟩ :=
  LRes.mk_imp (ImpFr.refl _ _) ⟨⟨rfl, rfl, rfl⟩, Row.imp.refl _ _, ⟨rfl, rfl, rfl⟩, ints_imp h, trivial⟩
theorem addK {x : Int} {k : Nat} (h0 : 0 ≤ x) (h : x < 1073741824) (hk : k ≤ 8) : binI .add .i64 x (.ofNat k) = x + k :=
  wrap_id .i64 _ (by show (-9223372036854775808 : Int) ≤ _; simp only [Int.ofNat_eq_natCast]; omega) (by show _ ≤ (9223372036854775807 : Int); simp only [Int.ofNat_eq_natCast]; omega)
theorem cvF_den {ρ : Env} (h0 : 0 ≤ ρ.e 0) (h : ρ.e 0 < 1073741824) {k : Nat} (hk : k ≤ 8) : Wv ρ (cvF k) (wU (((ρ.l 0).drop (ρ.e 0).toNat).getD k 0)) := by
  show wU (IntKind.u64.wrap ((ρ.l 0).getD (binI .add .i64 (ρ.e 0) (.ofNat k)).toNat 0)) = _
  rw [wU_wrap, addK h0 h hk]
  congr 1
  rw [List.getD, List.getD, List.getElem?_drop]
  congr 2; omega
theorem wdF_den {ρ : Env} (h0 : 0 ≤ ρ.e 0) (h : ρ.e 0 < 1073741824) : ∀ n : Nat, n ≤ 7 → Wd ρ (wdF n) (wordN ((List.range (n + 1)).map fun i => wU (((ρ.l 0).drop (ρ.e 0).toNat).getD i 0)) 0)
  | 0, _ => Wd.or (a := .lit 0) (n := 0) rfl (cvF_den h0 h (by omega))
  | n + 1, hn => by
    rw [List.range_succ, List.map_append, List.map_cons, List.map_nil, wordN_app]
    exact Wd.or (Wd.shl (by decide) (wdF_den h0 h n (by omega)).v).v (cvF_den h0 h (by omega))
theorem take8 {l : List Int} (h : 8 ≤ l.length) : (l.take 8).map wU = (List.range 8).map fun i => wU (l.getD i 0) := by
  have e : l.take 8 = (List.range 8).map fun i => (l.take 8).getD i 0 := (range_getD (d := (0 : Int)) (l.take 8) 8 (by rw [List.length_take]; omega)).symm
  rw [e, List.map_map]
  refine List.map_congr_left fun i hi => ?_
  have hi := List.mem_range.1 hi
  show wU ((l.take 8).getD i 0) = wU (l.getD i 0)
  rw [List.getD, List.getD, List.getElem?_take_of_lt hi]
theorem abHead2 {okr : List B} {oks : List B} (hr : roundH Pr cfAb 200 12 155 6 abH2 [] [4] [0, 6] = abT2 oks) (ho : amongB abOks2 oks = true) : HeadOk Pr 155 6 abH2 abI2 (abR2 okr) := by
  refine HeadOk.of hm cfAb_ok hr abI2 (fun ρ => (((ρ.l 0).length : Nat) - ρ.e 0).toNat) _ (fun ρ _ x hx => by cases hx) fun ρ r hI hp => ?_
  cases hp
  obtain ⟨h1, h2, h4, h5, h6⟩ := hI
  unfold abT2
  simp only [T.pick]
  have hb : (B.lt (.var 0) (.len (.var 0))).den ρ = ltb (ρ.e 0) (((ρ.l 0).length : Nat) : Int) := rfl
  rw [hb]
  have hlen : ((ρ.l 0).drop (ρ.e 0).toNat).length = (((ρ.l 0).length : Nat) - ρ.e 0).toNat := by rw [List.length_drop]; omega
  cases hc : ltb (ρ.e 0) (((ρ.l 0).length : Nat) : Int) with
  | true =>
    have hlt : ρ.e 0 < (((ρ.l 0).length : Nat) : Int) := ltb_ok hc
    have e0 : (ρ.sub abS2).e 0 = ρ.e 0 + 8 := addK (x := ρ.e 0) (k := 8) h1 (by omega) (by omega)
    have el : (ρ.sub abS2).l 0 = ρ.l 0 := rfl
    have h8 : 8 ≤ ((ρ.l 0).drop (ρ.e 0).toNat).length := by rw [hlen]; omega
    have hw := wdF_den (ρ := ρ) h1 (by omega) 7 (by omega)
    have ht8 := take8 h8
    rw [← ht8] at hw
    have hx : (ρ.sub abS2).l 1 = w5L (turnN ⟨(w5 (ρ.l 1)).a ^^^ wordN ((((ρ.l 0).drop (ρ.e 0).toNat).take 8).map wU) 0, (w5 (ρ.l 1)).b, (w5 (ρ.l 1)).c, (w5 (ρ.l 1)).d, (w5 (ρ.l 1)).e⟩) := abX_den hw.v
    have hl5 := turnN_lt (xor_lt5 (ρ.l 1) (wordU_lt (((ρ.l 0).drop (ρ.e 0).toNat).take 8)))
    refine ⟨_, rfl, ?_, fun hs => ⟨⟨by rw [e0]; omega, by rw [e0, el]; omega, by rw [e0, el]; omega, by rw [el]; exact h5, by rw [hx]; exact W5ok_of hl5⟩, by rw [e0, el]; omega, _, rfl, ?_⟩⟩
    · intro b hb
      have hb := amongB_ok ho b hb
      obtain ⟨k, hk, rfl⟩ := List.mem_map.1 hb
      have hk := List.mem_range.1 hk
      have ek : (E.bin .add .i64 (.var 0) (.lit (.ofNat k))).den ρ = ρ.e 0 + k := addK (x := ρ.e 0) h1 (by omega) (by omega)
      show (!ltb ((E.bin .add .i64 (.var 0) (.lit (.ofNat k))).den ρ) 0 && ltb ((E.bin .add .i64 (.var 0) (.lit (.ofNat k))).den ρ) (((ρ.l 0).length : Nat) : Int)) = true
      rw [ek, ltF (by omega), ltT (by omega)]; rfl
    · unfold LRes.subst
      refine abImp2 (es := (appE 5 53 abA .nil).map fun e => e.sub abS2) ?_
      rw [List.map_map, abA_den]
      have hf : (fun e : E => E.den ρ e) ∘ (fun e : E => e.sub abS2) = E.den (ρ.sub abS2) := funext fun e => E.sub_den hs ρ e
      show List.map ((fun e : E => E.den ρ e) ∘ fun e : E => e.sub abS2) _ = _
      rw [hf, abA_den, e0, el, hx, w5_id hl5]
      have hd : (ρ.l 0).drop (ρ.e 0 + 8).toNat = ((ρ.l 0).drop (ρ.e 0).toNat).drop 8 := by
        rw [List.drop_drop]; congr 1; omega
      rw [hd, absorb_step (w5 (ρ.l 1)) (rest := (ρ.l 0).drop (ρ.e 0).toNat) h8 (by omega)]
  | false =>
    have hge : (((ρ.l 0).length : Nat) : Int) ≤ ρ.e 0 := ltb_no hc
    refine ⟨_, rfl, fun b hb => (by cases hb), abImp2 ?_, by simp⟩
    rw [xEs_den, abA_den, hlen]
    have hz : ((((ρ.l 0).length : Nat) : Int) - ρ.e 0).toNat = 0 := by omega
    rw [hz]
    exact h6
def ab20 : Sub := ⟨[.lit 0], [.var 0, consL x0Es], [], [], .ix⟩
noncomputable def abC2 : LCon := ⟨155, 6, theDs Pr 155 6, (abH2.at []).map fun p => (p.1, p.2.sub ab20), 7, [(0, hO), (5, byO (.var 0)), (6, tO x0Es)], absR 2 [(4, .ptr 6 (.lit 0) 0 0)] 7 6⟩
theorem abC2_ok : LConOk Pr abC2 := by
  have h0 := LConOk.ofS (abHead2 (okr := absOk) (oks := oksOf (roundH Pr cfAb 200 12 155 6 abH2 [] [4] [0, 6])) (by kernel_rfl) (by kernel_rfl)) [] ab20 rfl (ds := theDs Pr 155 6) (by kernel_rfl) rfl (by kernel_rfl) fun ρ r hp hok => by
    cases hp
    have hok : okOk ρ (absOk.map (·.sub ab20)) := hok
    have hok : okOk (ρ.sub ab20) absOk := fun b hb => by rw [← B.sub_den (Sub.noix_ok rfl)]; exact hok _ (List.mem_map.2 ⟨b, hb, rfl⟩)
    obtain ⟨k1, k2⟩ := absOk_of hok
    refine ⟨Int.le_refl _, ?_, ?_, k1, ?_⟩
    · show (0 : Int) ≤ (((ρ.l 0).length : Nat) : Int); omega
    · show ((((ρ.l 0).length : Nat) : Int) - 0) % 8 = 0
      have k2 : (ρ.l 0).length % 8 = 0 := k2
      omega
    · show W5ok ((consL x0Es).den ρ)
      rw [x0_den]; exact W5ok_of x0_lt
  have eob : ((abH2.obs []).map fun p => (p.1, p.2.sub ab20)) = [(0, hO), (5, byO (.var 0)), (6, tO x0Es)] := by kernel_rfl
  rw [eob] at h0
  refine LConOk.alt h0 rfl fun ρ r' hp hok => ?_
  cases hp
  have e : (absOk.map (·.sub ab20)) = absOk := by kernel_rfl
  refine ⟨_, rfl, by show okOk ρ (absOk.map (·.sub ab20)); rw [e]; exact hok, ?_⟩
  refine abImp2 (es := (appE 5 53 abA .nil).map fun e => e.sub ab20) ?_
  rw [appE_den ρ 5 55 (.var 0) .nil rfl]
  have ha : ((appE 5 53 abA .nil).map fun e => e.sub ab20).map (E.den ρ) = (appE 5 53 abA .nil).map (E.den (ρ.sub ab20)) := by
    rw [List.map_map]
    exact List.map_congr_left fun e _ => E.sub_den (Sub.noix_ok rfl) ρ e
  have ha2 : List.map (E.den ρ) (List.map (fun e => e.sub ab20) (appE 5 53 abA .nil)) = J 55 (ρ.l 0) [] := by
    rw [ha, abA_den]
    have e1 : (ρ.sub ab20).l 1 = w5L x0N := x0_den ρ
    have e2 : (ρ.sub ab20).l 0 = ρ.l 0 := rfl
    have e3 : (ρ.sub ab20).e 0 = 0 := rfl
    rw [e1, e2, e3, w5_id x0_lt, J55]; rfl
  exact ha2
end Go.Proofs.YtmckhoaekbeijaaGreat.E
/- Sums: contracts of both. -/
namespace Go.Proofs.YtmckhoaekbeijaaGreat.E
open Go Go.RowKit
set_option maxRecDepth 100000
set_option linter.unusedVariables false
noncomputable def cfS : Cf := ⟨tabC [turnC 195, turnC 223, wordD 196], lpC [sjC, pdC 112 8 4 2 3, pdC 155 2 5 0 4, abC, abC2], noMg⟩
theorem cfS_ok : CfOk Pr cfS := cfOk_mk (all_cons turn1_ok (all_cons turn2_ok (all_cons (wordD_ok word_ok) all_nil))) (all_cons sjC_ok (all_cons pd1_ok (all_cons pd2_ok (all_cons abC_ok (all_cons abC2_ok all_nil)))))
def sqE (X : E) (k : Nat) : E := bif Nat.beq k 0 then shrE X 56 else .conv .u8 (shrE X (56 - 8 * k))
def sqEs (X : L) : List E := (List.range 8).map fun k => sqE (.get X (.lit 0)) k
def upL (X : L) : L := .app 12 X .nil
def squE (X : L) : List E := sqEs X ++ (sqEs (upL X) ++ (sqEs (upL (upL X)) ++ sqEs (upL (upL (upL X)))))
def absL (p : L) : L := .app 55 (.app 54 (.cat p (.cons (.lit 128) .nil)) .nil) .nil
def sumEs (p : L) : List E := squE (absL p)
theorem sqE_den {ρ : Env} {X : E} {n k : Nat} (h : Wd ρ X n) (hk : k < 8) : (sqE X k).den ρ = (((n >>> (56 - 8 * k)) % 256 : Nat) : Int) := by
  have hs := Wd.shr (s := 56 - 8 * k) (by omega) h
  unfold sqE
  cases k with
  | zero =>
    show (shrE X 56).den ρ = _
    rw [(Wd.shr (s := 56) (by omega) h).den]
    have : n >>> 56 < 256 := by
      rw [Nat.shiftRight_eq_div_pow]
      have := h.lt
      omega
    show ((n >>> 56 : Nat) : Int) = ((n >>> 56 % 256 : Nat) : Int)
    rw [Nat.mod_eq_of_lt this]
  | succ k =>
    show IntKind.u8.wrap ((shrE X (56 - 8 * (k + 1))).den ρ) = _
    rw [hs.den]
    have hw : ∀ m : Nat, IntKind.u8.wrap (m : Int) = ((m % 256 : Nat) : Int) := fun m => by
      simp [IntKind.wrap, IntKind.signed, IntKind.bits]
    exact hw _
theorem sqEs_den {ρ : Env} {X : L} {x : W5} (h : X.den ρ = w5L x) (hx : Lt5 x) : (sqEs X).map (E.den ρ) = (bytesN x.a).map fun n : Nat => (n : Int) := by
  have hw : Wd ρ (.get X (.lit 0)) x.a := ⟨by show (X.den ρ).getD 0 0 = _; rw [h]; rfl, hx _ (by simp [w5N])⟩
  unfold sqEs
  rw [List.map_map]
  have : (List.range 8).map (E.den ρ ∘ fun k => sqE (.get X (.lit 0)) k) = (List.range 8).map fun k => (((x.a >>> (56 - 8 * k)) % 256 : Nat) : Int) :=
    List.map_congr_left fun k hk => sqE_den hw (List.mem_range.1 hk)
  rw [this]; rfl
theorem upL_den {ρ : Env} {X : L} {x : W5} (h : X.den ρ = w5L x) (hx : Lt5 x) : (upL X).den ρ = w5L (turnN x) := by
  show J 12 (X.den ρ) [] = _
  rw [h, J12, w5_id hx]
theorem squE_den {ρ : Env} {X : L} {x : W5} (h : X.den ρ = w5L x) (hx : Lt5 x) : (squE X).map (E.den ρ) = (squeezeN x).map fun n : Nat => (n : Int) := by
  unfold squE squeezeN
  rw [List.map_append, List.map_append, List.map_append, List.map_append, List.map_append, List.map_append, sqEs_den h hx, sqEs_den (upL_den h hx) (turnN_lt hx), sqEs_den (upL_den (upL_den h hx) (turnN_lt hx)) (turnN_lt (turnN_lt hx)),
    sqEs_den (upL_den (upL_den (upL_den h hx) (turnN_lt hx)) (turnN_lt (turnN_lt hx))) (turnN_lt (turnN_lt (turnN_lt hx)))]
theorem padN_I (l : List Int) : (padI (l ++ [128])).map wU = padN (l.map wU) := by
  unfold padI padN
  rw [List.map_append, List.map_append, List.map_replicate]
  have e1 : [(128 : Int)].map wU = [128] := rfl
  have e2 : wU 0 = 0 := rfl
  rw [e1, e2]
  congr 2
  rw [List.length_append, List.length_map]
  show (8 - (l.length + 1) % 8) % 8 = 7 - l.length % 8
  omega
theorem bytesN_lt (x : Nat) : ∀ n ∈ bytesN x, n < 256 := by
  intro n hn
  unfold bytesN at hn
  obtain ⟨m, _, rfl⟩ := List.mem_map.1 hn
  exact Nat.mod_lt _ (by decide)
theorem squeezeN_lt (x : W5) : ∀ n ∈ squeezeN x, n < 256 := by
  intro n hn
  unfold squeezeN at hn
  simp only [List.mem_append] at hn
  rcases hn with h | h | h | h
  all_goals exact bytesN_lt _ n h
theorem squeezeN_len (x : W5) : (squeezeN x).length = 32 := rfl
theorem sumN_lt (l : List Nat) : ∀ n ∈ sumN l, n < 256 := squeezeN_lt _
theorem sumM_len (l : List Int) : (sumM l).length = 32 := by unfold sumM; rw [List.length_map]; rfl
theorem wrapB {n : Nat} (h : n < 256) : IntKind.u8.wrap (n : Int) = (n : Int) := wrap_id .u8 _ (by show (0 : Int) ≤ _; omega) (by show _ ≤ (255 : Int); omega)
theorem sumM_wrap (l : List Int) : (sumM l).map IntKind.u8.wrap = sumM l := by
  unfold sumM
  rw [List.map_map]
  exact List.map_congr_left fun n hn => wrapB (sumN_lt _ n hn)
theorem cut_id {l : List Int} {n : Nat} (h : l.length = n) : cutJ n l = l := range_getD (d := (0 : Int)) l n h
theorem J11 (l : List Int) : J 11 l [] = sumM l := by
  show cutJ 32 ((sumM l).map IntKind.u8.wrap) = _
  rw [sumM_wrap, cut_id (sumM_len l)]
theorem sumEs_den (ρ : Env) (p : L) : (sumEs p).map (E.den ρ) = sumM (p.den ρ) := by
  have h : (absL p).den ρ = w5L (absorbN ((padN ((p.den ρ).map wU)).length / 8) (padN ((p.den ρ).map wU)) x0N) := by
    show J 55 (padI (p.den ρ ++ [128])) [] = _
    rw [J55, ← padN_I, List.length_map]
  unfold sumEs
  rw [squE_den h (absorb_lt _ _ _ (fun c hc => ?_) x0_lt)]
  · rfl
  · rw [← padN_I] at hc
    obtain ⟨x, _, rfl⟩ := List.mem_map.1 hc
    exact wU_lt x
def sumOk (p : L) : List B := [.lt (.len p) (.lit 1000000000)]
def sumR (p : L) (ok : List B) : T (V × List B) := .leaf (.agg ((appE 32 11 p .nil).map (V.int .u8)), ok)
def sumC1 (f : FuncId) : Con := ⟨f, [llA 0], sumR (.join (.var 0)) (.lt (.cnt (.var 0)) (.lit 4611686018427387904) :: sumOk (.join (.var 0)))⟩
def sumC2 (f : FuncId) : Con := ⟨f, [.fs 1 (.ints .u8 (.var 0))], sumR (.var 0) (sumOk (.var 0))⟩
def sumAsk (p : L) : List B := [.lt (.len (padL (.cat p (.cons (.lit 128) .nil)))) (.lit 1073741824), .eq (.bin .rem .i64 (.len (padL (.cat p (.cons (.lit 128) .nil)))) (.lit 8)) (.lit 0), .lt (.len (.cat p (.cons (.lit 128) .nil))) (.lit 1073741824), .lt (.len p) (.lit 1073741824)]
def oksT : T (V × List B) → List B
  | .leaf q => q.2
  | _ => []
theorem sumAsk_ok {ρ : Env} {p : L} (h : okOk ρ (sumOk p)) : okOk ρ (sumAsk p) := by
  have h1 : ltb (((p.den ρ).length : Nat) : Int) 1000000000 = true := h _ (List.mem_cons_self ..)
  have h1 := ltb_ok h1
  have e1 : ((L.cat p (.cons (.lit 128) .nil)).den ρ).length = (p.den ρ).length + 1 := by
    show (p.den ρ ++ [128]).length = _
    rw [List.length_append]; rfl
  have e2 : ((padL (.cat p (.cons (.lit 128) .nil))).den ρ).length = (p.den ρ).length + 1 + (8 - ((p.den ρ).length + 1) % 8) % 8 := by
    rw [padL_den, padI_len, e1]
  have e3 : ((padL (.cat p (.cons (.lit 128) .nil))).den ρ).length % 8 = 0 := by rw [padL_den]; exact padI_mod _
  intro b hb
  simp only [sumAsk, List.mem_cons, List.not_mem_nil, or_false] at hb
  rcases hb with rfl | rfl | rfl | rfl
  · exact ltT (by show ((((padL (.cat p (.cons (.lit 128) .nil))).den ρ).length : Nat) : Int) < 1073741824; rw [e2]; omega)
  · show eqb (((((padL (.cat p (.cons (.lit 128) .nil))).den ρ).length : Nat) : Int).tmod 8) 0 = true
    rw [eqb_eq, beq_iff_eq, Int.tmod_eq_emod_of_nonneg (by omega)]
    omega
  · exact ltT (by show ((((L.cat p (.cons (.lit 128) .nil)).den ρ).length : Nat) : Int) < 1073741824; rw [e1]; omega)
  · exact ltT (by show (((p.den ρ).length : Nat) : Int) < 1073741824; omega)
theorem sum_alt {ρ : Env} {p : L} : V.imp ρ (.agg ((sumEs p).map (V.int .u8))) (.agg ((appE 32 11 p .nil).map (V.int .u8))) := V.imp.ints (by
  rw [sumEs_den, appE_den ρ 32 11 p .nil rfl]
  exact (J11 _).symm)
theorem sum1_ok : ConOk Pr (sumC1 112) := by
  have h : ConOk Pr ⟨112, [llA 0], .leaf (.agg ((sumEs (.join (.var 0))).map (V.int .u8)), oksT (shutT (exec Pr cfS 400 12 112 [llA 0])))⟩ := Con.ofExec hm cfS_ok rfl (fuel := 400) (depth := 12) (by kernel_rfl)
  refine Con.alt h fun ρ r' bs' hp hb => ?_
  cases hp
  refine ⟨_, _, rfl, fun b hb' => ?_, sum_alt⟩
  have ho : amongB (.lt (.cnt (.var 0)) (.lit 4611686018427387904) :: sumAsk (.join (.var 0))) (oksT (shutT (exec Pr cfS 400 12 112 [llA 0]))) = true := by kernel_rfl
  have hb' := amongB_ok ho b hb'
  rcases List.mem_cons.1 hb' with rfl | hb'
  · exact hb _ (List.mem_cons_self ..)
  · exact sumAsk_ok (fun b hb2 => hb b (List.mem_cons_of_mem _ hb2)) b hb'
theorem sum2_ok : ConOk Pr (sumC2 155) := by
  have h : ConOk Pr ⟨155, [.fs 1 (.ints .u8 (.var 0))], .leaf (.agg ((sumEs (.var 0)).map (V.int .u8)), oksT (shutT (exec Pr cfS 400 12 155 [.fs 1 (.ints .u8 (.var 0))])))⟩ := Con.ofExec hm cfS_ok rfl (fuel := 400) (depth := 12) (by kernel_rfl)
  refine Con.alt h fun ρ r' bs' hp hb => ?_
  cases hp
  refine ⟨_, _, rfl, fun b hb' => ?_, sum_alt⟩
  have ho : amongB (sumAsk (.var 0)) (oksT (shutT (exec Pr cfS 400 12 155 [.fs 1 (.ints .u8 (.var 0))]))) = true := by kernel_rfl
  exact sumAsk_ok hb b (amongB_ok ho b hb')
end Go.Proofs.YtmckhoaekbeijaaGreat.E
/- Sums of a sum, a label, rows: contracts of both. -/
namespace Go.Proofs.YtmckhoaekbeijaaGreat.E
open Go Go.RowKit
set_option maxRecDepth 100000
set_option linter.unusedVariables false
noncomputable def cfD : Cf := ⟨tabC [sumC1 112, sumC2 155], lpC [], noMg⟩
theorem cfD_ok : CfOk Pr cfD := cfOk_mk (all_cons sum1_ok (all_cons sum2_ok all_nil)) all_nil
def hV (i : Nat) : V := .agg ((List.range 32).map fun k => V.int .u8 (.get (.var i) (.lit (.ofNat k))))
def frow (i : Nat) : V := .fs 1 (.ints .u8 (.var i))
def h32 (i : Nat) : L := .sub (.var i) 0 32
def getsTo : List Nat → Nat → L → L
  | [], _, l => l
  | k :: ks, i, l => .cons (.get (.var i) (.lit (.ofNat k))) (getsTo ks i l)
def derX (rest : L) : L := getsTo (List.range 32) 0 (.cons (.conv .u8 (.len (.var 1))) rest)
def derP (rest : L) : L := .cat (h32 0) (.cons (.conv .u8 (.len (.var 1))) rest)
theorem derX_den (ρ : Env) (rest : L) : (derX rest).den ρ = (derP rest).den ρ := rfl
def derC (f : FuncId) (arg : V) (rest : L) : Con := ⟨f, [hV 0, .str (.var 1), arg], .leaf (.agg ((appE 32 11 (derP rest) .nil).map (V.int .u8)), [.lt (.len (derP rest)) (.lit 1000000000)])⟩
theorem der_alt {f : FuncId} {arg : V} {rest : L} {oks : List B} (h : ConOk Pr ⟨f, [hV 0, .str (.var 1), arg], .leaf (.agg ((appE 32 11 (derX rest) .nil).map (V.int .u8)), oks)⟩) (hok : ∀ ρ, (((derX rest).den ρ).length : Int) < 1000000000 → okOk ρ oks) : ConOk Pr (derC f arg rest) := by
  refine Con.alt h fun ρ r' bs' hp hb => ?_
  cases hp
  have h1 : ltb ((((derP rest).den ρ).length : Nat) : Int) 1000000000 = true := hb _ (List.mem_cons_self ..)
  refine ⟨_, _, rfl, hok ρ (by rw [derX_den]; exact ltb_ok h1), V.imp.ints ?_⟩
  rw [appE_den ρ 32 11 (derP rest) .nil rfl, appE_den ρ 32 11 (derX rest) .nil rfl]
  show J 11 ((derX rest).den ρ) [] = J 11 ((derP rest).den ρ) []
  rw [derX_den]
def lenOk (l : L) (n : Int) : B := .lt (.len l) (.lit n)
theorem lenOk_of {ρ : Env} {l : L} {n : Int} (h : ((l.den ρ).length : Int) < n) : (lenOk l n).den ρ = true := ltT h
theorem der_len {ρ : Env} (a b : L) (h : ((derX (.cat a b)).den ρ).length < 1000000000) : ((derX a).den ρ).length < 1000000000 := by
  have e1 : ∀ r : L, ((derX r).den ρ).length = 33 + (r.den ρ).length := fun r => by
    rw [derX_den]
    show (subL (ρ.l 0) 0 32 ++ (_ :: r.den ρ)).length = _
    rw [List.length_append, List.length_cons]
    have : (subL (ρ.l 0) 0 32).length = 32 := by unfold subL; simp
    omega
  rw [e1] at h ⊢
  have : ((L.cat a b).den ρ).length = (a.den ρ).length + (b.den ρ).length := by show (a.den ρ ++ b.den ρ).length = _; rw [List.length_append]
  omega
def byt1 : L := .byt (.var 1)
def dArg (n : Nat) : V := .fs 1 (.any ((List.range n).map fun i => frow (2 + i)))
def nilArg : V := .sc (.slice none 0 0)
def dRest : Nat → Nat → L
  | 0, i => .var i
  | n + 1, i => .cat (.var i) (dRest n (i + 1))
theorem one_ok {l : L} : ∀ ρ : Env, ((l.den ρ).length : Int) < 1000000000 → okOk ρ [lenOk l 1000000000] := fun ρ h b hb => by
  rcases List.mem_cons.1 hb with rfl | hb
  · exact ltT h
  · cases hb
theorem der0_ok : ConOk Pr (derC 53 nilArg byt1) := der_alt (oks := [lenOk (derX byt1) 1000000000]) (Con.ofExec hm cfD_ok rfl (fuel := 400) (depth := 12) (by kernel_rfl)) one_ok
theorem der1_ok : ConOk Pr (derC 53 (dArg 1) (.cat byt1 (dRest 0 2))) := der_alt (oks := [lenOk (derX (.cat byt1 (dRest 0 2))) 1000000000]) (Con.ofExec hm cfD_ok rfl (fuel := 400) (depth := 12) (by kernel_rfl)) one_ok
theorem der2_ok : ConOk Pr (derC 53 (dArg 2) (.cat byt1 (dRest 1 2))) := der_alt (oks := [lenOk (derX (.cat byt1 (dRest 1 2))) 1000000000]) (Con.ofExec hm cfD_ok rfl (fuel := 400) (depth := 12) (by kernel_rfl)) one_ok
theorem der3_ok : ConOk Pr (derC 53 (dArg 3) (.cat byt1 (dRest 2 2))) := der_alt (oks := [lenOk (derX (.cat byt1 (dRest 2 2))) 1000000000]) (Con.ofExec hm cfD_ok rfl (fuel := 400) (depth := 12) (by kernel_rfl)) one_ok
theorem der4_ok : ConOk Pr (derC 53 (dArg 4) (.cat byt1 (dRest 3 2))) := der_alt (oks := [lenOk (derX (.cat byt1 (dRest 3 2))) 1000000000]) (Con.ofExec hm cfD_ok rfl (fuel := 400) (depth := 12) (by kernel_rfl)) one_ok
theorem derR0_ok : ConOk Pr (derC 75 nilArg byt1) := der_alt (oks := [lenOk (derX byt1) 1000000000, lenOk (derX byt1) 1073741824, lenOk (derX byt1) 1073741824]) (Con.ofExec hm cfD_ok rfl (fuel := 400) (depth := 12) (by kernel_rfl)) fun ρ h b hb => by
  simp only [List.mem_cons, List.not_mem_nil, or_false, or_self] at hb
  rcases hb with rfl | rfl
  · exact lenOk_of h
  · exact lenOk_of (by omega)
theorem derR1_ok : ConOk Pr (derC 75 (frow 2) (.cat byt1 (dRest 0 2))) := der_alt (oks := [lenOk (derX (.cat byt1 (dRest 0 2))) 1000000000, lenOk (derX (.cat byt1 (dRest 0 2))) 1073741824, lenOk (derX byt1) 1073741824]) (Con.ofExec hm cfD_ok rfl (fuel := 400) (depth := 12) (by kernel_rfl)) fun ρ h b hb => by
  have h2 := der_len (ρ := ρ) byt1 (dRest 0 2) (by omega)
  simp only [List.mem_cons, List.not_mem_nil, or_false] at hb
  rcases hb with rfl | rfl | rfl
  · exact lenOk_of h
  · exact lenOk_of (by omega)
  · exact lenOk_of (by omega)
noncomputable def derTab : List Con := [derC 53 nilArg byt1, derC 53 (dArg 1) (.cat byt1 (dRest 0 2)), derC 53 (dArg 2) (.cat byt1 (dRest 1 2)), derC 53 (dArg 3) (.cat byt1 (dRest 2 2)), derC 53 (dArg 4) (.cat byt1 (dRest 3 2)), derC 75 nilArg byt1, derC 75 (frow 2) (.cat byt1 (dRest 0 2)), sumC1 112, sumC2 155]
theorem derTab_ok : ∀ c ∈ derTab, ConOk Pr c := all_cons der0_ok (all_cons der1_ok (all_cons der2_ok (all_cons der3_ok (all_cons der4_ok (all_cons derR0_ok (all_cons derR1_ok (all_cons sum1_ok (all_cons sum2_ok all_nil))))))))
end Go.Proofs.YtmckhoaekbeijaaGreat.E
/- Keys: contracts. -/
namespace Go.Proofs.YtmckhoaekbeijaaGreat.E
open Go Go.RowKit
set_option maxRecDepth 100000
set_option linter.unusedVariables false
/-! sums as numbers -/
def scalE (h : L) : E := .get (.app 101 h .nil) (.lit 0)
def numbE (h : L) : E := .get (.app 102 h .nil) (.lit 0)
def scalC (f : FuncId) : Con := ⟨f, [hV 0], .leaf (.int .i64 (scalE (h32 0)), [])⟩
def numbC (f : FuncId) : Con := ⟨f, [hV 0], .leaf (.int .i64 (numbE (h32 0)), [])⟩
theorem cut8_sub (l : List Int) : (cutJ 8 (subL l 0 32)).map wU = (List.range 8).map fun i => wU (l.getD i 0) := by
  unfold cutJ subL
  rw [List.map_map]
  refine List.map_congr_left fun i hi => ?_
  have hi := List.mem_range.1 hi
  show wU (((List.range 32).map fun i => l.getD (0 + i) 0).getD i 0) = _
  rw [List.getD, List.getElem?_map, List.getElem?_range (by omega)]
  show wU (l.getD (0 + i) 0) = _
  rw [Nat.zero_add]
theorem wdE_mod (ρ : Env) (m : Nat) (hm : 0 < m) : (E.bin .rem .u64 (wdE 7) (.lit (.ofNat m))).den ρ = ((firstN m (subL (ρ.l 0) 0 32) : Nat) : Int) := by
  have h := wdE_den ρ 7
  show ((wdE 7).den ρ).tmod (.ofNat m) = _
  rw [h.den]
  unfold firstN
  rw [cut8_sub]
  exact (Int.ofNat_tmod _ _).symm
theorem firstN_lt (m : Nat) (hm : 0 < m) (a : List Int) : firstN m a < m := Nat.mod_lt _ hm
theorem scalM_rg (a : List Int) : 1 ≤ scalM a ∧ scalM a ≤ 1073741788 := by
  have := firstN_lt 1073741788 (by decide) a
  unfold scalM; omega
theorem numbM_rg (a : List Int) : 0 ≤ numbM a ∧ numbM a < 1073741789 := by
  have := firstN_lt 1073741789 (by decide) a
  unfold numbM; omega
theorem wrap31 {x : Int} (h1 : 0 ≤ x) (h2 : x < 2147483648) : IntKind.i64.wrap x = x := wrap_id _ _ (by show (-9223372036854775808 : Int) ≤ _; omega) (by show _ ≤ (9223372036854775807 : Int); omega)
theorem scalE_den (ρ : Env) (h : L) : (scalE h).den ρ = scalM (h.den ρ) := by
  show IntKind.i64.wrap (scalM (h.den ρ)) = _
  have := scalM_rg (h.den ρ)
  exact wrap31 (by omega) (by omega)
theorem numbE_den (ρ : Env) (h : L) : (numbE h).den ρ = numbM (h.den ρ) := by
  show IntKind.i64.wrap (numbM (h.den ρ)) = _
  have := numbM_rg (h.den ρ)
  exact wrap31 (by omega) (by omega)
theorem scal_of {f : FuncId} (h : ConOk Pr ⟨f, [hV 0], .leaf (.int .i64 (.bin .add .i64 (.bin .rem .u64 (wdE 7) (.lit (.ofNat 1073741788))) (.lit 1)), [])⟩) : ConOk Pr (scalC f) := by
  refine Con.alt h fun ρ r' bs' hp hb => ?_
  cases hp
  refine ⟨_, _, rfl, hb, V.imp.int ?_⟩
  rw [scalE_den]
  show IntKind.i64.wrap ((E.bin .rem .u64 (wdE 7) (.lit (.ofNat 1073741788))).den ρ + 1) = scalM (subL (ρ.l 0) 0 32)
  rw [wdE_mod ρ 1073741788 (by decide)]
  have := firstN_lt 1073741788 (by decide) (subL (ρ.l 0) 0 32)
  rw [wrap31 (by omega) (by omega)]; rfl
theorem numb_of {f : FuncId} (h : ConOk Pr ⟨f, [hV 0], .leaf (.int .i64 (.bin .rem .u64 (wdE 7) (.lit (.ofNat 1073741789))), [])⟩) : ConOk Pr (numbC f) := by
  refine Con.alt h fun ρ r' bs' hp hb => ?_
  cases hp
  refine ⟨_, _, rfl, hb, V.imp.int ?_⟩
  rw [numbE_den, wdE_mod ρ 1073741789 (by decide)]; rfl
theorem scal1_ok : ConOk Pr (scalC 132) := scal_of (Con.ofExec hm cf0_ok rfl (fuel := 400) (depth := 12) (by kernel_rfl))
theorem scal2_ok : ConOk Pr (scalC 158) := scal_of (Con.ofExec hm cf0_ok rfl (fuel := 400) (depth := 12) (by kernel_rfl))
theorem numb1_ok : ConOk Pr (numbC 215) := numb_of (Con.ofExec hm cf0_ok rfl (fuel := 400) (depth := 12) (by kernel_rfl))
theorem numb2_ok : ConOk Pr (numbC 228) := numb_of (Con.ofExec hm cf0_ok rfl (fuel := 400) (depth := 12) (by kernel_rfl))
/-! four bytes -/
def fourL (a : E) : L := .app 111 (.cons a .nil) .nil
def fourC (f : FuncId) : Con := ⟨f, [ival 0], .leaf (.fs 1 (.ints .u8 (fourL (.var 0))), [])⟩
def fourX : L := .cons (.conv .u8 (.bin .shr .i64 (.var 0) (.lit 24))) (.cons (.conv .u8 (.bin .shr .i64 (.var 0) (.lit 16))) (.cons (.conv .u8 (.bin .shr .i64 (.var 0) (.lit 8))) (.cons (.conv .u8 (.var 0)) .nil)))
theorem fourM_wrap (n : Int) : (fourM n).map IntKind.u8.wrap = fourM n := by
  unfold fourM; rw [List.map_map]; exact List.map_congr_left fun x _ => wrap_wrap .u8 _
theorem J111 (n : Int) (l : List Int) : J 111 (n :: l) [] = fourM n := by
  show cutJ 4 ((fourM n).map IntKind.u8.wrap) = _
  rw [fourM_wrap]
  exact cut_id rfl
theorem fourL_den (ρ : Env) (a : E) : (fourL a).den ρ = fourM (a.den ρ) := J111 _ _
theorem fourX_den (ρ : Env) : fourX.den ρ = fourM (ρ.e 0) := by
  show [IntKind.u8.wrap ((ρ.e 0).fdiv (2 ^ 24)), IntKind.u8.wrap ((ρ.e 0).fdiv (2 ^ 16)), IntKind.u8.wrap ((ρ.e 0).fdiv (2 ^ 8)), IntKind.u8.wrap (ρ.e 0)] = _
  unfold fourM
  simp
theorem four_of {f : FuncId} (h : shutT (exec Pr cf0 100 10 f [ival 0]) = .leaf (.fs 1 (.ints .u8 fourX), [])) : ConOk Pr (fourC f) :=
  Con.alt (Con.ofExec hm cf0_ok rfl h) fun ρ r' bs' hp hb => by cases hp; exact ⟨_, _, rfl, hb, V.imp.fsInts (by rw [fourX_den, fourL_den]; rfl)⟩
theorem four1_ok : ConOk Pr (fourC 133) := four_of (by kernel_rfl)
theorem four2_ok : ConOk Pr (fourC 153) := four_of (by kernel_rfl)
/-! keys -/
def KT : Nat := 237
def keyV (i : Nat) : V := .key KT (.var i)
noncomputable def powTab0 : List Con := [mulC 199, powC 135, isC 165, mulC 219, powC 160, isC 150, scalC 132, scalC 158]
theorem powTab0_ok : ∀ c ∈ powTab0, ConOk Pr c := all_cons mul1_ok (all_cons powC1_ok (all_cons isC1_ok (all_cons mul2_ok (all_cons powC2_ok (all_cons isC2_ok (all_cons scal1_ok (all_cons scal2_ok all_nil)))))))
noncomputable def numbTab : List Con := [numbC 215, numbC 228, fourC 133, fourC 153]
theorem numbTab_ok : ∀ c ∈ numbTab, ConOk Pr c := all_cons numb1_ok (all_cons numb2_ok (all_cons four1_ok (all_cons four2_ok all_nil)))
noncomputable def powTab : List Con := powTab0 ++ numbTab
theorem powTab_ok : ∀ c ∈ powTab, ConOk Pr c := all_app powTab0_ok numbTab_ok
noncomputable def cfKy : Cf := ⟨tabC (powTab ++ derTab), lpC [], noMg⟩
theorem cfKy_ok : CfOk Pr cfKy := cfOk_mk (all_app powTab_ok derTab_ok) all_nil
def fromC (f : FuncId) : Con := ⟨f, [hV 0], .leaf (.key KT (scalE (h32 0)), [])⟩
theorem from1_ok : ConOk Pr (fromC 110) := by
  have h : FConOk Pr ⟨110, [hV 0], 0, [], .leaf ⟨.ptr 0 (.lit 0) 0 0, 1, [(0, keyOb KT (scalE (h32 0)) (.lit 0) (.lit 0) (.lit 0) (.lit 0))], []⟩⟩ := FCon.ofExec hm cfKy_ok (fuel := 100) (depth := 10) (by kernel_rfl)
  intro ρ r bs hp hb k
  cases hp
  exact Spec.toKey (by kernel_rfl) (h ρ _ rfl fun b hb => by cases hb) rfl k
theorem powE_4 (ρ : Env) : (powE (.lit 4) (.var 0)).den ρ = powM 4 (ρ.e 0) := powE_den ρ _ _
def pubC (f : FuncId) : Con := ⟨f, [keyV 0], .leaf (.int .i64 (powE (.lit 4) (.var 0)), [])⟩
theorem pub1_ok : ConOk Pr (pubC 83) := by
  refine Con.keyed (t0 := .leaf (keyEnd KT (.int .i64 (powE (.lit 4) (.var 0))) (.lit 1) (powE (.lit 4) (.var 0)) (.lit 1) (.var 11))) (t1 := .leaf (keyEnd KT (.int .i64 (powE (.lit 4) (.var 0))) (.lit 1) (powE (.lit 4) (.var 0)) (.var 10) (.var 11)))
    (powE (.lit 4) (.var 0)) powE_4 rfl (fun _ _ => rfl) (FCon.ofExec hm cfKy_ok (fuel := 100) (depth := 10) (by kernel_rfl)) (FCon.ofExec hm cfKy_ok (fuel := 100) (depth := 10) (by kernel_rfl)) (fun _ _ => rfl) fun ρ r bs hp hb => ?_
  cases hp
  refine ⟨rfl, fun m u => ⟨rfl, ⟨_, _, _, _, rfl, .inr ⟨rfl, ?_⟩⟩, ⟨_, _, _, _, rfl, .inr ⟨rfl, ?_⟩⟩⟩⟩
  · rw [powE_4]; rfl
  · rw [powE_4]; rfl
def secC (f : FuncId) : Con := ⟨f, [keyV 0], .leaf (ival 0, [])⟩
theorem sec1_ok : ConOk Pr (secC 131) := by
  refine Con.keyed (t0 := .leaf (keyEnd KT (ival 0) (.lit 0) (.lit 0) (.var 10) (.var 11))) (t1 := .leaf (keyEnd KT (ival 0) (.lit 1) (powE (.lit 4) (.var 0)) (.var 10) (.var 11)))
    (powE (.lit 4) (.var 0)) powE_4 rfl (fun _ _ => rfl) (FCon.ofExec hm cfKy_ok (fuel := 100) (depth := 10) (by kernel_rfl)) (FCon.ofExec hm cfKy_ok (fuel := 100) (depth := 10) (by kernel_rfl)) (fun _ _ => rfl) fun ρ r bs hp hb => ?_
  cases hp
  refine ⟨rfl, fun m u => ⟨rfl, ⟨_, _, _, _, rfl, .inl ⟨rfl, rfl⟩⟩, ⟨_, _, _, _, rfl, .inr ⟨rfl, ?_⟩⟩⟩⟩
  rw [powE_4]; rfl
end Go.Proofs.YtmckhoaekbeijaaGreat.E
/- Tables of keys; kinds of arguments. -/
namespace Go.Proofs.YtmckhoaekbeijaaGreat.E
open Go Go.RowKit
set_option maxRecDepth 100000
set_option linter.unusedVariables false
noncomputable def keyTab0 : List Con := [fromC 110, pubC 83]
theorem keyTab0_ok : ∀ c ∈ keyTab0, ConOk Pr c := all_cons from1_ok (all_cons pub1_ok all_nil)
noncomputable def secTab : List Con := [secC 131]
theorem secTab_ok : ∀ c ∈ secTab, ConOk Pr c := all_cons sec1_ok all_nil
noncomputable def keyTab : List Con := keyTab0 ++ secTab
theorem keyTab_ok : ∀ c ∈ keyTab, ConOk Pr c := all_app keyTab0_ok secTab_ok
noncomputable def numTab : List Con := [numC 128, numC 76]
theorem numTab_ok : ∀ c ∈ numTab, ConOk Pr c := all_cons num1_ok (all_cons num2_ok all_nil)
noncomputable def baseTab : List Con := keyTab ++ (powTab ++ (derTab ++ numTab))
theorem baseTab_ok : ∀ c ∈ baseTab, ConOk Pr c := all_app keyTab_ok (all_app powTab_ok (all_app derTab_ok numTab_ok))
noncomputable def cfW : Cf := ⟨tabC baseTab, lpC [], noMg⟩
theorem cfW_ok : CfOk Pr cfW := cfOk_mk baseTab_ok all_nil
def intK : List K1 := [.int .i64]
theorem intK_ok : kindsT Pr 10 3 = some intK := by kernel_rfl
end Go.Proofs.YtmckhoaekbeijaaGreat.E
/- Groups of one: contracts. -/
namespace Go.Proofs.YtmckhoaekbeijaaGreat.E
open Go Go.RowKit
set_option maxRecDepth 100000
set_option linter.unusedVariables false
def natsL (l : List Nat) : L := consL (l.map fun n => E.lit (.ofNat n))
/-- a sum of a sum, a label, nothing more. -/
def derL (h : L) (label : List Nat) : L := .app 11 (.cat h (natsL (label.length :: label))) .nil
def sSign : L := derL (h32 0) [115, 105, 103, 110]
def sLeaf : L := derL (h32 0) [108, 101, 97, 102]
def sNode (h : L) : L := derL h [110, 111, 100, 101]
def sFirst (h : L) : L := derL h [102, 105, 114, 115, 116]
def sInit (h : L) : L := derL h [105, 110, 105, 116]
def u8s (l : L) : List V := (List.range 32).map fun i => V.int .u8 (.get l (.lit (.ofNat i)))
def zer (k : IntKind) (n : Nat) : List V := List.replicate n (.int k (.lit 0))
def fls (n : Nat) : List V := List.replicate n (.bool (.lit false))
def pubE (h : L) : E := powE (.lit 4) (scalE h)
def viewCr : List V := [.int .i64 (.lit 0), .int .i64 (pubE sSign), .int .i64 (pubE (sNode sLeaf))] ++ zer .i64 29 ++ (.bool (.lit true) :: fls 7) ++ (.int .i64 (.lit 1) :: zer .u8 32)
def partyCr : List V := viewCr ++ (.int .i64 (.lit 0) :: .key KT (scalE sSign) :: u8s sLeaf) ++ fls 3 ++ zer .u8 96 ++ u8s (sFirst sLeaf) ++ u8s (sInit (sFirst sLeaf))
def partyCr2 : List V := viewCr ++ [.int .i64 (.lit 0), .int .i64 (scalE sSign), .int .i64 (pubE sSign)] ++ u8s sLeaf ++ zer .u8 448 ++ (.bool (.lit true) :: fls 14) ++ u8s (sFirst sLeaf) ++ u8s (sInit (sFirst sLeaf))
def feV (l : List V) : V := .fe (.any l) (.lit 0) 0 0
def createC (f : FuncId) (l : List V) : Con := ⟨f, [hV 0], .leaf (feV l, [])⟩
theorem create1_ok : ConOk Pr (createC 13 partyCr) := Con.ofExec hm cfW_ok rfl (fuel := 400) (depth := 12) (by kernel_rfl)
theorem create2_ok : ConOk Pr (createC 15 partyCr2) := Con.ofExec hm cfW_ok rfl (fuel := 400) (depth := 12) (by kernel_rfl)
noncomputable def crTab : List Con := [createC 13 partyCr, createC 15 partyCr2]
theorem crTab_ok : ∀ c ∈ crTab, ConOk Pr c := all_cons create1_ok (all_cons create2_ok all_nil)
noncomputable def cfCr : Cf := ⟨tabC (crTab ++ baseTab), lpC [], noMg⟩
theorem cfCr_ok : CfOk Pr cfCr := cfOk_mk (all_app crTab_ok baseTab_ok) all_nil
end Go.Proofs.YtmckhoaekbeijaaGreat.E
/- Commits as bytes: loops. -/
namespace Go.Proofs.YtmckhoaekbeijaaGreat.E
open Go Go.RowKit
set_option maxRecDepth 100000
set_option linter.unusedVariables false
def voteA (i : Nat) : V := .fs 3 (.recs 3 (.cnt (.var i)) (tI .i64 3 (.var i)))
/-- a commit's cells: numbers from letter 'e' on, tag 'l', operations 'a', votes 'b', boxes 'c'. -/
def commitCs (e l a b c : Nat) : List V := [ival e, ival (e + 1), opsA a, voteA b, ival (e + 2), ival (e + 3), ival (e + 4), ival (e + 5), llA c] ++ ((List.range 32).map fun k => .int .u8 (.get (.var l) (.lit (.ofNat k)))) ++ [ival (e + 6), ival (e + 7)]
def commitA : V := .agg (commitCs 0 0 0 1 2)
noncomputable def ttB : TT := tabF [joinC 209, joinC 82] (tabC [numC 128, numC 76, opsC 197, opsC 218])
theorem ttB_ok (ρ : Env) : TTOk Pr ρ ttB := tabF_ok (tabC_ok (all_cons num1_ok (all_cons num2_ok (all_cons ops1_ok (all_cons ops2_ok all_nil))))) (all_cons join1_ok (all_cons join2_ok all_nil))
noncomputable def cfB : Cf := ⟨ttB, lpC [], noMg⟩
theorem cfB_ok : CfOk Pr cfB := ⟨ttB_ok, fun ρ => lpC_ok all_nil⟩
/-! votes -/
def votesL (a : LL) : L := .app 17 .nil a
theorem votesM_wrap (l : List (List Int)) : (votesM l).map IntKind.u8.wrap = votesM l := by
  unfold votesM
  induction l with
  | nil => rfl
  | cons a l ih => rw [List.flatMap_cons, List.map_append, numsM_wrap, ih]
theorem votesM_len (l : List (List Int)) : (votesM l).length = 24 * l.length := by
  unfold votesM
  induction l with
  | nil => rfl
  | cons a l ih => rw [List.flatMap_cons, List.length_append, ih, numsM_len, List.length_map, List.length_range, List.length_cons]; omega
theorem votesL_den (ρ : Env) (a : LL) : (votesL a).den ρ = votesM (a.den ρ) := by
  show (votesM (a.den ρ)).map IntKind.u8.wrap = _
  exact votesM_wrap _
def votesG : L := votesL (restLL (.var 0) (.var 0))
def voteX : L := .cat (oprN 0) (.cat (oprN 1) (oprN 2))
theorem voteX_den (ρ : Env) : voteX.den ρ = numsM ((List.range 3).map fun i => ((ρ.ll 0).getD (ρ.e 0).toNat []).getD i 0) := by
  simp [numsM, List.range_succ, List.flatMap_cons, oprN, numL_den, voteX, L.den, E.den, LL.den]
/-- what a round does to the letters that are looked at. -/
def appSub (s : Sub) (X : L) : Prop := ∀ ρ : Env, (ρ.sub s).e 0 = binI .add .i64 (ρ.e 0) 1 ∧ (ρ.sub s).l 0 = ρ.l 0 ++ X.den ρ ∧ (ρ.sub s).ll 0 = ρ.ll 0
def votesOks : List B := [.lt (.len (.cat (.var 0) voteX)) (.lit 1073741824), .lt (.len (.cat (.var 0) (oprN 0))) (.lit 1073741824), .lt (.len (.cat (.var 0) (.cat (oprN 0) (oprN 1)))) (.lit 1073741824), opsIx]
theorem votesHead {f id slot n0 n1 x : Nat} {H : LHead} {osl oob : List Nat} {s : Sub} {oks : List B} {fr2 : List (Nat × V)} {ob2 : List (Nat × Ob)}
    (hr : roundH Pr cfB 100 10 f id H [] osl oob = .br (.lt (.var 0) (.cnt (.var 0))) (.leaf (.go s oks)) (.leaf (.out ⟨.exit x, rowFr slot n0 1 (.var 0) ++ fr2, n1, rowOb n0 .u8 5 (.var 0) ++ ob2, []⟩)))
    (h2 : subFr s fr2 = fr2) (h3 : subOb s ob2 = ob2) (hs : appSub s voteX) (ho : amongB votesOks oks = true) : HeadOk Pr f id H (appI 0 0 (.cnt (.var 0)) votesG) (appResX slot n0 n1 x 0 .u8 5 votesG (appOk 0 0 (.cnt (.var 0)) votesG) fr2 ob2) := by
  have step : ∀ ρ : Env, 0 ≤ ρ.e 0 → ρ.e 0 < ((ρ.ll 0).length : Nat) → (ρ.sub s).e 0 = ρ.e 0 + 1 → votesG.den ρ = voteX.den ρ ++ votesG.den (ρ.sub s) := fun ρ h0 hlt e1 => by
    unfold votesG
    rw [votesL_den, votesL_den, restLL_den, restLL_den, voteX_den]
    show votesM ((ρ.ll 0).drop (ρ.e 0).toNat) = _ ++ votesM (((ρ.sub s).ll 0).drop ((ρ.sub s).e 0).toNat)
    rw [e1, (hs ρ).2.2, drop_at (d := []) h0 hlt]
    simp only [votesM, List.flatMap_cons]
  refine HeadOk.appX hm cfB_ok hr h2 h3 votesG (fun ρ => (hs ρ).1) (fun ρ h0 hlt e1 => ⟨?_, _, (hs ρ).2.1, step ρ h0 hlt e1⟩) (fun ρ hI hlt e1 b hb => ?_) fun ρ he => ?_
  · show (((ρ.sub s).ll 0).length : Int) = ((ρ.ll 0).length : Nat)
    rw [(hs ρ).2.2]
  · have hb := amongB_ok ho b hb
    have h4 := hI.2.2.2
    rw [step ρ hI.1 hlt e1, List.length_append] at h4
    simp only [votesOks, List.mem_cons, List.not_mem_nil, or_false] at hb
    have hl : (voteX.den ρ).length = 24 := by rw [voteX_den, numsM_len, List.length_map, List.length_range]
    rcases hb with rfl | rfl | rfl | rfl
    · exact ok_len (m := 1073741824) (by show (ρ.l 0 ++ voteX.den ρ).length < _; rw [List.length_append]; omega)
    · exact ok_len (m := 1073741824) (by simp only [L.den, List.length_append, oprN, numL_den, numB_len]; omega)
    · exact ok_len (m := 1073741824) (by simp only [L.den, List.length_append, oprN, numL_den, numB_len]; omega)
    · exact ok_ix hI.1 hlt
  · have he : ρ.e 0 = ((ρ.ll 0).length : Nat) := he
    unfold votesG
    rw [votesL_den, restLL_den]
    show votesM ((ρ.ll 0).drop (ρ.e 0).toNat) = []
    rw [he, Int.toNat_natCast, List.drop_length]; rfl
def vote1H : LHead := ⟨[(3, .sl 9 0 (.lit 0) (.len (.var 0)) 1 true), (28, voteA 0), (29, .int .i64 (.cnt (.var 0))), (30, ival 0)], 9, [15], [(9, ⟨.ints .u8 (.var 0), true, 5⟩)]⟩
def commitOb : List (Nat × Ob) := [(0, ⟨.any (commitCs 1 1 1 0 2), true, 49⟩)]
def vote2H : LHead := ⟨[(1, .ptr 0 (.lit 0) 0 0), (3, .sl 7 0 (.lit 0) (.len (.var 0)) 1 true), (4, ival 0)], 7, [12], (7, ⟨.ints .u8 (.var 0), true, 5⟩) :: commitOb⟩
def vote1S : Sub := ⟨[.bin .add .i64 (.var 0) (.lit 1)], [.cat (.var 0) voteX], [.var 0], [], .ix⟩
def vote2S : Sub := ⟨[.bin .add .i64 (.var 0) (.lit 1), .var 1, .var 2, .var 3, .var 4, .var 5, .var 6, .var 7, .var 8], [.cat (.var 0) voteX, .sub (.var 1) 0 32], [.var 0, .var 1, .var 2], [], .ix⟩
theorem vote1Head : HeadOk Pr 129 3 vote1H (appI 0 0 (.cnt (.var 0)) votesG) (appResX 3 9 10 0 0 .u8 5 votesG (appOk 0 0 (.cnt (.var 0)) votesG) [] []) :=
  votesHead (osl := [3]) (oob := [9]) (s := vote1S) (oks := oksOf (roundH Pr cfB 100 10 129 3 vote1H [] [3] [9])) (by kernel_rfl) rfl rfl (fun _ => ⟨rfl, rfl, rfl⟩) (by kernel_rfl)
theorem vote2Head : HeadOk Pr 156 3 vote2H (appI 0 0 (.cnt (.var 0)) votesG) (appResX 3 7 8 0 0 .u8 5 votesG (appOk 0 0 (.cnt (.var 0)) votesG) [(1, .ptr 0 (.lit 0) 0 0)] commitOb) :=
  votesHead (osl := [3, 1]) (oob := [7, 0]) (s := vote2S) (oks := oksOf (roundH Pr cfB 100 10 156 3 vote2H [] [3, 1] [7, 0])) (by kernel_rfl) (by kernel_rfl) (by kernel_rfl) (fun _ => ⟨rfl, rfl, rfl⟩) (by kernel_rfl)
def from1 : Sub := ⟨[.lit 0], [.var 0], [.var 0], [], .ix⟩
def from2 : Sub := ⟨[.lit 0, .var 1, .var 2, .var 3, .var 4, .var 5, .var 6, .var 7, .var 8], [.var 0, .var 1], [.var 0, .var 1, .var 2], [], .ix⟩
/-- a loop's contract, made of its head. -/
def lcon (f id : Nat) (ds : List Nat) (H : LHead) (p0 : List Nat) (s : Sub) (res : T LRes) : LCon := ⟨f, id, ds, (H.at p0).map fun p => (p.1, p.2.sub s), H.n0, (H.obs p0).map fun p => (p.1, p.2.sub s), T.sub s res⟩
noncomputable def vote1L : LCon := lcon 129 3 (theDs Pr 129 3) vote1H [8] from1 (appResX 3 9 10 0 0 .u8 5 votesG (appOk 0 0 (.cnt (.var 0)) votesG) [] [])
noncomputable def vote2L : LCon := lcon 156 3 (theDs Pr 156 3) vote2H [6] from2 (appResX 3 7 8 0 0 .u8 5 votesG (appOk 0 0 (.cnt (.var 0)) votesG) [(1, .ptr 0 (.lit 0) 0 0)] commitOb)
theorem vote1L_ok : LConOk Pr vote1L := LConOk.ofS vote1Head [8] from1 rfl (by kernel_rfl) rfl rfl fun ρ r hp hok => appX_nil rfl ρ r hp hok
theorem vote2L_ok : LConOk Pr vote2L := LConOk.ofS vote2Head [6] from2 rfl (by kernel_rfl) rfl (by kernel_rfl) fun ρ r hp hok => appX_nil rfl ρ r hp hok
noncomputable def cfB1 : Cf := ⟨ttB, lpC [vote1L, vote2L], noMg⟩
/-! boxes -/
def boxesL (a : LL) : L := .app 18 .nil a
theorem boxesL_den (ρ : Env) (a : LL) : (boxesL a).den ρ = boxesM (a.den ρ) := rfl
def boxesG : L := boxesL (restLL (.var 0) (.var 0))
def boxAt : L := .at (.var 0) (.var 0)
def boxX : L := .cat (numL (.len boxAt)) boxAt
theorem boxX_den (ρ : Env) : boxX.den ρ = numB ((((ρ.ll 0).getD (ρ.e 0).toNat []).length : Nat)) ++ (ρ.ll 0).getD (ρ.e 0).toNat [] := rfl
def boxesOks : List B := [.lt (.len (.cat (.var 0) boxX)) (.lit 1073741824), .lt (.len (.cat (.var 0) (numL (.len boxAt)))) (.lit 1073741824), opsIx]
theorem boxesHead {f id slot n0 n1 x : Nat} {H : LHead} {osl oob : List Nat} {s : Sub} {oks : List B} {fr2 : List (Nat × V)} {ob2 : List (Nat × Ob)}
    (hr : roundH Pr cfB 100 10 f id H [] osl oob = .br (.lt (.var 0) (.cnt (.var 0))) (.leaf (.go s oks)) (.leaf (.out ⟨.exit x, rowFr slot n0 1 (.var 0) ++ fr2, n1, rowOb n0 .u8 5 (.var 0) ++ ob2, []⟩)))
    (h2 : subFr s fr2 = fr2) (h3 : subOb s ob2 = ob2) (hs : appSub s boxX) (ho : amongB boxesOks oks = true) : HeadOk Pr f id H (appI 0 0 (.cnt (.var 0)) boxesG) (appResX slot n0 n1 x 0 .u8 5 boxesG (appOk 0 0 (.cnt (.var 0)) boxesG) fr2 ob2) := by
  have step : ∀ ρ : Env, 0 ≤ ρ.e 0 → ρ.e 0 < ((ρ.ll 0).length : Nat) → (ρ.sub s).e 0 = ρ.e 0 + 1 → boxesG.den ρ = boxX.den ρ ++ boxesG.den (ρ.sub s) := fun ρ h0 hlt e1 => by
    unfold boxesG
    rw [boxesL_den, boxesL_den, restLL_den, restLL_den, boxX_den]
    show boxesM ((ρ.ll 0).drop (ρ.e 0).toNat) = _ ++ boxesM (((ρ.sub s).ll 0).drop ((ρ.sub s).e 0).toNat)
    rw [e1, (hs ρ).2.2, drop_at (d := []) h0 hlt]
    simp only [boxesM, List.flatMap_cons]
  refine HeadOk.appX hm cfB_ok hr h2 h3 boxesG (fun ρ => (hs ρ).1) (fun ρ h0 hlt e1 => ⟨?_, _, (hs ρ).2.1, step ρ h0 hlt e1⟩) (fun ρ hI hlt e1 b hb => ?_) fun ρ he => ?_
  · show (((ρ.sub s).ll 0).length : Int) = ((ρ.ll 0).length : Nat)
    rw [(hs ρ).2.2]
  · have hb := amongB_ok ho b hb
    have h4 := hI.2.2.2
    rw [step ρ hI.1 hlt e1, List.length_append, boxX_den, List.length_append, numB_len] at h4
    simp only [boxesOks, List.mem_cons, List.not_mem_nil, or_false] at hb
    rcases hb with rfl | rfl | rfl
    · exact ok_len (m := 1073741824) (by show (ρ.l 0 ++ boxX.den ρ).length < _; rw [List.length_append, boxX_den, List.length_append, numB_len]; omega)
    · exact ok_len (m := 1073741824) (by simp only [L.den, List.length_append, numL_den, numB_len]; omega)
    · exact ok_ix hI.1 hlt
  · have he : ρ.e 0 = ((ρ.ll 0).length : Nat) := he
    unfold boxesG
    rw [boxesL_den, restLL_den]
    show boxesM ((ρ.ll 0).drop (ρ.e 0).toNat) = []
    rw [he, Int.toNat_natCast, List.drop_length]; rfl
def box1H : LHead := ⟨[(3, .sl 17 0 (.lit 0) (.len (.var 0)) 1 true), (66, llA 0), (67, .int .i64 (.cnt (.var 0))), (68, ival 0)], 17, [21], [(17, ⟨.ints .u8 (.var 0), true, 5⟩)]⟩
def commitOb2 : List (Nat × Ob) := [(0, ⟨.any (commitCs 1 1 1 2 0), true, 49⟩)]
def box2H : LHead := ⟨[(1, .ptr 0 (.lit 0) 0 0), (3, .sl 15 0 (.lit 0) (.len (.var 0)) 1 true), (5, ival 0)], 15, [17], (15, ⟨.ints .u8 (.var 0), true, 5⟩) :: commitOb2⟩
def box1S : Sub := ⟨[.bin .add .i64 (.var 0) (.lit 1)], [.cat (.var 0) boxX], [.var 0], [], .ix⟩
def box2S : Sub := ⟨[.bin .add .i64 (.var 0) (.lit 1), .var 1, .var 2, .var 3, .var 4, .var 5, .var 6, .var 7, .var 8], [.cat (.var 0) boxX, .sub (.var 1) 0 32], [.var 0, .var 1, .var 2], [], .ix⟩
def box1R : T LRes := appResX 3 17 18 2 0 .u8 5 boxesG (appOk 0 0 (.cnt (.var 0)) boxesG) [] []
def box2R : T LRes := appResX 3 15 16 2 0 .u8 5 boxesG (appOk 0 0 (.cnt (.var 0)) boxesG) [(1, .ptr 0 (.lit 0) 0 0)] commitOb2
theorem box1Head : HeadOk Pr 129 9 box1H (appI 0 0 (.cnt (.var 0)) boxesG) box1R :=
  boxesHead (osl := [3]) (oob := [17]) (s := box1S) (oks := oksOf (roundH Pr cfB 100 10 129 9 box1H [] [3] [17])) (by kernel_rfl) rfl rfl (fun _ => ⟨rfl, rfl, rfl⟩) (by kernel_rfl)
theorem box2Head : HeadOk Pr 156 8 box2H (appI 0 0 (.cnt (.var 0)) boxesG) box2R :=
  boxesHead (osl := [3, 1]) (oob := [15, 0]) (s := box2S) (oks := oksOf (roundH Pr cfB 100 10 156 8 box2H [] [3, 1] [15, 0])) (by kernel_rfl) (by kernel_rfl) (by kernel_rfl) (fun _ => ⟨rfl, rfl, rfl⟩) (by kernel_rfl)
noncomputable def box1L : LCon := lcon 129 9 (theDs Pr 129 9) box1H [16] from1 box1R
noncomputable def box2L : LCon := lcon 156 8 (theDs Pr 156 8) box2H [14] from2 box2R
theorem box1L_ok : LConOk Pr box1L := LConOk.ofS box1Head [16] from1 rfl (by kernel_rfl) rfl rfl fun ρ r hp hok => appX_nil rfl ρ r hp hok
theorem box2L_ok : LConOk Pr box2L := LConOk.ofS box2Head [14] from2 rfl (by kernel_rfl) rfl (by kernel_rfl) fun ρ r hp hok => appX_nil rfl ρ r hp hok
noncomputable def cfB2 : Cf := ⟨ttB, lpC [vote1L, vote2L, box1L, box2L], noMg⟩
theorem cfB2_ok : CfOk Pr cfB2 := ⟨ttB_ok, fun ρ => lpC_ok (all_cons vote1L_ok (all_cons vote2L_ok (all_cons box1L_ok (all_cons box2L_ok all_nil))))⟩
end Go.Proofs.YtmckhoaekbeijaaGreat.E
/- Commits as bytes: contracts. -/
namespace Go.Proofs.YtmckhoaekbeijaaGreat.E
open Go Go.RowKit
set_option maxRecDepth 100000
set_option linter.unusedVariables false
def catL : List L → L
  | [] => .nil
  | [a] => a
  | a :: b :: l => .cat a (catL (b :: l))
theorem catL_den (ρ : Env) : ∀ l : List L, (catL l).den ρ = l.flatMap (L.den ρ)
  | [] => rfl
  | [a] => by simp [catL]
  | a :: b :: l => by rw [catL, L.den, catL_den ρ (b :: l)]; rfl
def bodyParts : List L := [numL (.var 0), numL (.var 1), numL (.cnt (.var 0)), opsL (.var 0), numL (.cnt (.var 1)), votesL (.var 1), numL (.var 2), numL (.var 3), numL (.var 4), numL (.var 5), numL (.cnt (.var 2)), boxesL (.var 2)]
def bodyL : L := catL bodyParts
def ltLen (l : L) : B := .lt (.len l) (.lit 1073741824)
def ltCnt (l : LL) : B := .lt (.cnt l) (.lit 4611686018427387904)
def bodyOk0 : List B := [ltCnt (.var 2), ltLen bodyL, ltLen (catL (bodyParts.take 11)), ltCnt (.var 1), ltLen (catL (bodyParts.take 6)), ltLen (catL (bodyParts.take 5)), ltCnt (.var 0), ltLen (opsL (.var 0))]
def bodyOk : List B := [ltCnt (.var 0), ltCnt (.var 1), ltCnt (.var 2), ltLen bodyL]
def rowF (l : L) (ok : List B) : FRes := ⟨.sl 0 0 (.lit 0) (.len l) 1 true, 1, [(0, ⟨.ints .u8 l, true, 5⟩)], ok⟩
def bodyC (f : FuncId) : FCon := ⟨f, [commitA], 0, [], .leaf (rowF bodyL bodyOk)⟩
theorem take_len (ρ : Env) (l : List L) (k : Nat) : ((catL (l.take k)).den ρ).length ≤ ((catL l).den ρ).length := by
  rw [catL_den, catL_den]
  conv => rhs; rw [← List.take_append_drop k l]
  rw [List.flatMap_append, List.length_append]; omega
theorem ltLen_of {ρ : Env} {a b : L} (h : (a.den ρ).length ≤ (b.den ρ).length) (hb : (ltLen b).den ρ = true) : (ltLen a).den ρ = true := by
  have : (((b.den ρ).length : Nat) : Int) < 1073741824 := ltb_ok hb
  exact ltT (by show (((a.den ρ).length : Nat) : Int) < 1073741824; omega)
theorem bodyOk_all {ρ : Env} (h : okOk ρ bodyOk) : okOk ρ bodyOk0 := by
  have h0 := h (ltCnt (.var 0)) (by simp [bodyOk])
  have h1 := h (ltCnt (.var 1)) (by simp [bodyOk])
  have h2 := h (ltCnt (.var 2)) (by simp [bodyOk])
  have h3 := h (ltLen bodyL) (by simp [bodyOk])
  intro b hb
  simp only [bodyOk0, List.mem_cons, List.not_mem_nil, or_false] at hb
  rcases hb with rfl | rfl | rfl | rfl | rfl | rfl | rfl | rfl
  · exact h2
  · exact h3
  · exact ltLen_of (take_len ρ bodyParts 11) h3
  · exact h1
  · exact ltLen_of (take_len ρ bodyParts 6) h3
  · exact ltLen_of (take_len ρ bodyParts 5) h3
  · exact h0
  · refine ltLen_of ?_ h3
    unfold bodyL
    rw [catL_den]
    simp only [bodyParts, List.flatMap_cons, List.length_append]
    omega
theorem bodyC_of {f : FuncId} (h : (execF Pr cfB2 100 10 f [commitA] 0 []).bind (compact 0) = .leaf (rowF bodyL bodyOk0)) : FConOk Pr (bodyC f) := by
  refine FCon.alt (FCon.ofExec hm cfB2_ok h) fun ρ q' hp hok => ?_
  cases hp
  exact ⟨_, rfl, bodyOk_all hok, V.imp.refl _ _, rfl, fun id o e => ⟨o, e, rfl, rfl, Row.imp.refl _ _⟩⟩
theorem body1_ok : FConOk Pr (bodyC 129) := bodyC_of (by kernel_rfl)
theorem body2_ok : FConOk Pr (bodyC 156) := bodyC_of (by kernel_rfl)
end Go.Proofs.YtmckhoaekbeijaaGreat.E
/- Keys, bodies: tables. -/
namespace Go.Proofs.YtmckhoaekbeijaaGreat.E
open Go Go.RowKit
set_option maxRecDepth 100000
set_option linter.unusedVariables false
noncomputable def bodTab : List FCon := [bodyC 129, bodyC 156]
theorem bodTab_ok : ∀ c ∈ bodTab, FConOk Pr c := all_cons body1_ok (all_cons body2_ok all_nil)
noncomputable def cfP1 : Cf := ⟨tabF bodTab (tabC baseTab), lpC [], noMg⟩
theorem cfP1_ok : CfOk Pr cfP1 := ⟨fun ρ => tabF_ok (tabC_ok baseTab_ok) bodTab_ok, fun ρ => lpC_ok all_nil⟩
noncomputable def cfP2 : Cf := ⟨tabF bodTab (tabC (crTab ++ baseTab)), lpC [], noMg⟩
theorem cfP2_ok : CfOk Pr cfP2 := ⟨fun ρ => tabF_ok (tabC_ok (all_app crTab_ok baseTab_ok)) bodTab_ok, fun ρ => lpC_ok all_nil⟩
end Go.Proofs.YtmckhoaekbeijaaGreat.E
/- May a commit be? -/
namespace Go.Proofs.YtmckhoaekbeijaaGreat.E
open Go Go.RowKit
set_option maxRecDepth 100000
set_option linter.unusedVariables false
noncomputable def cfM : Cf := ⟨noTab, lpC [], allMg⟩
theorem cfM_ok : CfOk Pr cfM := ⟨fun ρ => noTab_ok Pr ρ, fun ρ => lpC_ok all_nil⟩
def inBs (e : E) (m : Int) : List B := [.not (.lt e (.lit 0)), .not (.lt (.lit m) e)]
def andB : List B → B
  | [] => .lit true
  | [a] => a
  | a :: b :: l => .and a (andB (b :: l))
def elB (l k : Nat) : E := .get (.at (.var l) .ix) (.lit (.ofNat k))
def opB (l : Nat) : B := .lt (.find (.cnt (.var l)) (.not (andB (inBs (elB l 0) 1099511627776 ++ inBs (elB l 1) 1099511627776 ++ inBs (elB l 2) 1099511627776 ++ inBs (elB l 3) 1099511627776 ++ inBs (elB l 4) 1099511627776)))) (.cnt (.var l))
def voteB (l : Nat) : B := .lt (.find (.cnt (.var l)) (.not (andB (inBs (elB l 0) 7 ++ inBs (elB l 1) 1073741788 ++ inBs (elB l 2) 1073741788)))) (.cnt (.var l))
def boxB (l : Nat) : B := .lt (.find (.cnt (.var l)) (.lt (.lit 300) (.len (.at (.var l) .ix)))) (.cnt (.var l))
/-- a commit that may be. -/
def mayB : B := andB (inBs (.var 0) 1099511627776 ++ inBs (.var 1) 7 ++ inBs (.var 2) 2147483579 ++ inBs (.var 3) 2147483579 ++ inBs (.var 4) 2147483579 ++ inBs (.var 5) 2147483579 ++ inBs (.var 6) 1073741788 ++ inBs (.var 7) 1073741788 ++
  [.not (.lt (.lit 4) (.cnt (.var 0))), .not (.lt (.lit 8) (.cnt (.var 1))), .not (.lt (.lit 16) (.cnt (.var 2))), .not (opB 0), .not (voteB 1), .not (boxB 2)])
/-- a truth that is asked for as a whole. -/
def hideB (b : B) : B := .lt (.lit 0) (.ofB b)
theorem hideB_den (ρ : Env) (b : B) : (hideB b).den ρ = b.den ρ := by
  show ltb 0 (b2i (b.den ρ)) = _
  cases b.den ρ <;> rfl
theorem Con.hide {P : Program} {g : FuncId} {args : List V} {b : B} {fs : List B} (h : ConOk P ⟨g, args, .leaf (.bool b, fs)⟩) : ConOk P ⟨g, args, .leaf (.bool (hideB b), fs)⟩ := by
  refine Con.alt h fun ρ r' bs' hp hok => ?_
  cases hp
  refine ⟨_, _, rfl, hok, fun β x e hr => ?_⟩
  have hr : F1 (.bool b) β.g x := hr
  have : F1 (.bool (hideB b)) β.g x := by
    simp only [F1] at hr ⊢
    rw [hr, hideB_den]
  exact R0.toR (F1.up this)
def mayC (f : FuncId) : Con := ⟨f, [commitA], .leaf (.bool (hideB mayB), [ltCnt (.var 0), ltCnt (.var 1), ltCnt (.var 2)])⟩
theorem may1_ok : ConOk Pr (mayC 288) := Con.hide (Con.bool (Con.ofExec hm cfM_ok (fuel := 100) (depth := 12) rfl rfl) mayB _ (by kernel_rfl))
theorem may2_ok : ConOk Pr (mayC 254) := Con.hide (Con.bool (Con.ofExec hm cfM_ok (fuel := 100) (depth := 10) rfl rfl) mayB _ (by kernel_rfl))
end Go.Proofs.YtmckhoaekbeijaaGreat.E
/- Commits as bytes, whole: contracts. -/
namespace Go.Proofs.YtmckhoaekbeijaaGreat.E
open Go Go.RowKit
set_option maxRecDepth 100000
set_option linter.unusedVariables false
noncomputable def ttC : TT := tabF [joinC 209, joinC 82, bodyC 129, bodyC 156] (tabC [numC 128, numC 76, mayC 288, mayC 254])
noncomputable def cfC2 : Cf := ⟨ttC, lpC [], noMg⟩
theorem cfC2_ok : CfOk Pr cfC2 := ⟨fun ρ => tabF_ok (tabC_ok (all_cons num1_ok (all_cons num2_ok (all_cons may1_ok (all_cons may2_ok all_nil))))) (all_cons join1_ok (all_cons join2_ok (all_cons body1_ok (all_cons body2_ok all_nil)))), fun ρ => lpC_ok all_nil⟩
def commitL : L := .cons (.lit 1) (catL (bodyParts ++ [.sub (.var 0) 0 32, numL (.var 6), numL (.var 7)]))
def cnts : List B := [ltCnt (.var 0), ltCnt (.var 1), ltCnt (.var 2)]
def commitT : T FRes := .br (hideB mayB) (.leaf ⟨.tup [.sl 0 0 (.lit 0) (.len commitL) 1 true, .int .i64 (.lit 0)], 1, [(0, ⟨.ints .u8 commitL, true, 5⟩)], ltLen commitL :: (cnts ++ ltLen bodyL :: cnts)⟩) (.leaf ⟨.tup [.sc (.slice none 0 0), .int .i64 (.lit 1)], 0, [], cnts⟩)
def commitC (f : FuncId) : FCon := ⟨f, [commitA], 0, [], commitT⟩
theorem commit1_ok : FConOk Pr (commitC 248) := FCon.ofExec hm cfC2_ok (fuel := 100) (depth := 10) (by kernel_rfl)
theorem commit2_ok : FConOk Pr (commitC 184) := FCon.ofExec hm cfC2_ok (fuel := 100) (depth := 10) (by kernel_rfl)
theorem andB_den (ρ : Env) : ∀ l : List B, (andB l).den ρ = true ↔ ∀ b ∈ l, b.den ρ = true
  | [] => ⟨fun _ b hb => (by cases hb), fun _ => rfl⟩
  | [a] => by simp [andB]
  | a :: b :: l => by
    have ih := andB_den ρ (b :: l)
    show ((a.den ρ) && (andB (b :: l)).den ρ) = true ↔ _
    rw [Bool.and_eq_true, ih]
    simp
theorem forall_app {α : Type} {p : α → Prop} {a b : List α} : (∀ x ∈ a ++ b, p x) ↔ (∀ x ∈ a, p x) ∧ ∀ x ∈ b, p x :=
  ⟨fun h => ⟨fun x hx => h x (List.mem_append_left _ hx), fun x hx => h x (List.mem_append_right _ hx)⟩, fun h => all_app h.1 h.2⟩
theorem wrapS {x : Int} (h1 : -1000000000 ≤ x) (h2 : x ≤ 1000000000) : IntKind.i64.wrap x = x := wrap_id .i64 _ (by show (-9223372036854775808 : Int) ≤ _; omega) (by show _ ≤ (9223372036854775807 : Int); omega)
theorem forall_cons' {α : Type} {p : α → Prop} {a : α} {b : List α} : (∀ x ∈ a :: b, p x) ↔ p a ∧ ∀ x ∈ b, p x :=
  ⟨fun h => ⟨h a (List.mem_cons_self ..), fun x hx => h x (List.mem_cons_of_mem _ hx)⟩, fun h => all_cons h.1 h.2⟩
end Go.Proofs.YtmckhoaekbeijaaGreat.E
/- Trees and views that may be: contracts. -/
namespace Go.Proofs.YtmckhoaekbeijaaGreat.E
open Go Go.RowKit
set_option maxRecDepth 100000
set_option linter.unusedVariables false
noncomputable def cfT : Cf := ⟨tabC [isC 165, isC 150], lpC [], hidMg⟩
theorem cfT_ok : CfOk Pr cfT := ⟨fun ρ => tabC_ok (all_cons isC1_ok (all_cons isC2_ok all_nil)), fun ρ => lpC_ok all_nil⟩
def zB (e : E) : B := .eq e (.lit 0)
def nB (e : E) : B := .not (zB e)
def orB (a b : B) : B := .not (.and (.not a) (.not b))
/-- a leaf's keys. -/
def leafX (s l : E) : B := .not (.and (.not (.and (zB s) (zB l))) (.not (.and (nB s) (nB l))))
def leafY (s l : E) : B := orB (.and (zB l) (leafX s l)) (.and (nB l) (.and (isB l) (leafX s l)))
def leafB (s l : E) : B := orB (.and (zB s) (leafY s l)) (.and (nB s) (.and (isB s) (leafY s l)))
def leafR (s l : E) : B := orB (.and (zB s) (.not (.and (nB l) (.not (.and (nB l) (.and (isB s) (isB l))))))) (.and (nB s) (.and (isB s) (isB l)))
/-- a node's key. -/
def nodeB (n : E) : B := .not (.and (nB n) (.not (.and (nB n) (isB n))))
def nodesB (o : Nat) : List B := (List.range 15).map fun i => bif Nat.beq (i % 2) 0 then zB (.var (o + (16 + i))) else hidB (nodeB (.var (o + (16 + i))))
def treeP (o : Nat) : B := andB (((List.range 8).map fun i => hidB (leafB (.var (o + 2 * i)) (.var (o + (2 * i + 1))))) ++ nodesB o)
def treeR (o : Nat) : B := andB (((List.range 8).map fun i => hidB (leafR (.var (o + 2 * i)) (.var (o + (2 * i + 1))))) ++ nodesB o)
def treeA (o : Nat) : List V := (List.range 31).map fun i => ival (o + i)
def treeC (f : FuncId) : Con := ⟨f, [.agg (treeA 0)], .leaf (.bool (hideB (treeP 0)), [])⟩
theorem treeP_t : shutT (exec Pr cfT 200 12 200 [.agg (treeA 0)]) = .leaf (.bool (treeP 0), []) := by kernel_rfl
theorem treeR_t : shutT (exec Pr cfT 200 12 220 [.agg (treeA 0)]) = .leaf (.bool (treeR 0), []) := by kernel_rfl
/-- a truth in other words. -/
theorem Con.eqB {P : Program} {g : FuncId} {args : List V} {b b' : B} {fs : List B} (h : ConOk P ⟨g, args, .leaf (.bool b, fs)⟩) (he : ∀ ρ : Env, b.den ρ = b'.den ρ) : ConOk P ⟨g, args, .leaf (.bool b', fs)⟩ := by
  refine Con.alt h fun ρ r' bs' hp hok => ?_
  cases hp
  exact ⟨_, _, rfl, hok, V.imp.bool (he ρ)⟩
theorem zB_den (ρ : Env) (e : E) : (zB e).den ρ = (e.den ρ == 0) := eqb_eq ..
theorem isB_i (ρ : Env) (e : E) : (isB e).den ρ = (isM (e.den ρ) == 1) := by rw [isB_den, eqb_eq]
theorem is0 (ρ : Env) (e : E) (h : (zB e).den ρ = true) : (isB e).den ρ = false := by
  rw [zB_den, beq_iff_eq] at h
  rw [isB_i, h]; rfl
theorem orB_den (ρ : Env) (a b : B) : (orB a b).den ρ = (a.den ρ || b.den ρ) := by
  show (!((!a.den ρ) && (!b.den ρ))) = _
  cases a.den ρ <;> cases b.den ρ <;> rfl
theorem leafB_den (ρ : Env) (s l : E) : (leafB s l).den ρ = (((zB s).den ρ && (zB l).den ρ) || ((isB s).den ρ && (isB l).den ρ)) := by
  unfold leafB leafY leafX nB
  simp only [orB_den, B.den]
  have h1 := is0 ρ s; have h2 := is0 ρ l
  cases hs : (zB s).den ρ <;> cases hl : (zB l).den ρ <;> simp_all
theorem leafR_den (ρ : Env) (s l : E) : (leafR s l).den ρ = (((zB s).den ρ && (zB l).den ρ) || ((isB s).den ρ && (isB l).den ρ)) := by
  unfold leafR nB
  rw [orB_den]
  simp only [B.den]
  have h1 := is0 ρ s; have h2 := is0 ρ l
  cases hs : (zB s).den ρ <;> cases hl : (zB l).den ρ <;> simp_all
theorem nodeB_den (ρ : Env) (n : E) : (nodeB n).den ρ = ((zB n).den ρ || (isB n).den ρ) := by
  unfold nodeB nB
  simp only [B.den]
  cases hs : (zB n).den ρ <;> simp_all
theorem andB_map {α : Type} (ρ : Env) (f g : α → B) (l : List α) (m : List B) (h : ∀ x ∈ l, (f x).den ρ = (g x).den ρ) : (andB (l.map f ++ m)).den ρ = (andB (l.map g ++ m)).den ρ := by
  rw [Bool.eq_iff_iff, andB_den, andB_den]
  simp only [forall_app, List.mem_map, forall_exists_index, and_imp, forall_apply_eq_imp_iff₂]
  constructor
  · rintro ⟨h1, h2⟩; exact ⟨fun a ha => by rw [← h a ha]; exact h1 a ha, h2⟩
  · rintro ⟨h1, h2⟩; exact ⟨fun a ha => by rw [h a ha]; exact h1 a ha, h2⟩
theorem treeR_P (ρ : Env) (o : Nat) : (treeR o).den ρ = (treeP o).den ρ := andB_map ρ _ _ _ _ fun i _ => by
  show (hidB _).den ρ = (hidB _).den ρ
  rw [hidB_den, hidB_den, leafR_den, leafB_den]
theorem tree1_ok : ConOk Pr (treeC 200) := Con.hide (Con.ofExec hm cfT_ok (fuel := 200) (depth := 12) rfl treeP_t)
theorem tree2_ok : ConOk Pr (treeC 220) := Con.hide (Con.eqB (Con.ofExec hm cfT_ok (fuel := 200) (depth := 12) rfl treeR_t) fun ρ => treeR_P ρ 0)
end Go.Proofs.YtmckhoaekbeijaaGreat.E
/- Views that may be: contracts. -/
namespace Go.Proofs.YtmckhoaekbeijaaGreat.E
open Go Go.RowKit
set_option maxRecDepth 100000
set_option linter.unusedVariables false
def oneE (i : Nat) : E := .ite (.var i) (.lit 1) (.lit 0)
def cntE : Nat → E
  | 0 => oneE 0
  | n + 1 => .bin .add .i64 (cntE n) (oneE (n + 1))
def sgE (o i : Nat) : E := .var (o + (1 + 2 * i))
def slE (o i : Nat) : E := .var (o + (1 + (2 * i + 1)))
def okA (o i : Nat) : B := .not (.and (.not (.and (.var i) (.not (.and (.not (.and (zB (sgE o i)) (nB (slE o i)))) (zB (sgE o i)))))) (.var i))
def admE (o : Nat) : E := (List.range 8).foldr (fun i a => .ite (hidB (okA o i)) a (.lit (-1))) (cntE 7)
def viewCs : List V := [ival 0] ++ treeA 1 ++ ((List.range 8).map fun i => .bool (.var i)) ++ [ival 32] ++ ((List.range 32).map fun i => V.int .u8 (.get (.var 0) (.lit (.ofNat i))))
def viewA : V := .agg viewCs
def viewK : List K1 := [.int .i64] ++ List.replicate 31 (.int .i64) ++ List.replicate 8 .bool ++ [.int .i64] ++ [.bytes 32]
theorem viewK_ok : kindsT Pr 10 40 = some viewK := by kernel_rfl
theorem viewK_pat : patArgs Pr [(40, viewK)] cn0 = [viewA] := by kernel_rfl
def admC (f : FuncId) (e : E) : Con := ⟨f, [viewA], .leaf (.int .i64 e, [])⟩
theorem adm1_ok : ConOk Pr (admC 123 (admE 0)) := Con.ofExec hm cfT_ok (fuel := 200) (depth := 12) rfl (by kernel_rfl)
noncomputable def cfT2 : Cf := ⟨noTab, lpC [], allMg⟩
theorem cfT2_ok : CfOk Pr cfT2 := ⟨fun ρ => noTab_ok Pr ρ, fun ρ => lpC_ok all_nil⟩
theorem adm2_ok : ConOk Pr (admC 145 (cntE 7)) := Con.ofExec hm cfT2_ok (fuel := 200) (depth := 12) rfl (by kernel_rfl)
noncomputable def cfT3 : Cf := ⟨tabC [treeC 200, treeC 220, admC 123 (admE 0), admC 145 (cntE 7)], lpC [], hidMg⟩
theorem cfT3_ok : CfOk Pr cfT3 := ⟨fun ρ => tabC_ok (all_cons tree1_ok (all_cons tree2_ok (all_cons adm1_ok (all_cons adm2_ok all_nil)))), fun ρ => lpC_ok all_nil⟩
def viewT (o : Nat) (adm : E) : List B := [.not (.lt (.var o) (.lit 0)), .not (.lt (.lit 1099511627776) (.var o)), hideB (treeP (o + 1)), .not (.lt (.var (o + 32)) (.lit 1)), .not (.lt adm (.var (o + 32)))]
/-- a view that may be. -/
def viewB (o : Nat) : B := andB (viewT o (admE o))
def viewR (o : Nat) : B := andB (((List.range 8).map fun i => hidB (okA o i)) ++ viewT o (cntE 7))
def viewC (f : FuncId) : Con := ⟨f, [viewA], .leaf (.bool (hideB (viewB 0)), [])⟩
theorem view1_t : shutT (exec Pr cfT3 200 12 119 [viewA]) = .leaf (.bool (viewB 0), []) := by kernel_rfl
theorem view2_t : shutT (exec Pr cfT3 200 12 140 [viewA]) = .leaf (.bool (viewR 0), []) := by kernel_rfl
theorem oneE_rg (ρ : Env) (i : Nat) : 0 ≤ (oneE i).den ρ ∧ (oneE i).den ρ ≤ 1 := by
  show 0 ≤ (bif ρ.b i then (1 : Int) else 0) ∧ (bif ρ.b i then (1 : Int) else 0) ≤ 1
  cases ρ.b i <;> simp
theorem cntE_rg (ρ : Env) : ∀ n : Nat, n < 100 → 0 ≤ (cntE n).den ρ ∧ (cntE n).den ρ ≤ (n + 1 : Nat)
  | 0, _ => oneE_rg ρ 0
  | n + 1, h => by
    have h1 := cntE_rg ρ n (by omega)
    have h2 := oneE_rg ρ (n + 1)
    show 0 ≤ IntKind.i64.wrap ((cntE n).den ρ + (oneE (n + 1)).den ρ) ∧ IntKind.i64.wrap ((cntE n).den ρ + (oneE (n + 1)).den ρ) ≤ _
    rw [wrapS (by omega) (by omega)]
    omega
theorem adm_den (ρ : Env) (o : Nat) : (admE o).den ρ = bif (List.range 8).all (fun i => (okA o i).den ρ) then (cntE 7).den ρ else -1 := by
  unfold admE
  induction List.range 8 with
  | nil => rfl
  | cons i l ih =>
    rw [List.foldr_cons, List.all_cons]
    show (bif (hidB (okA o i)).den ρ then (List.foldr _ _ l : E).den ρ else (-1 : Int)) = _
    rw [hidB_den, ih]
    cases (okA o i).den ρ <;> rfl
theorem all_range {p : Nat → Bool} {n : Nat} : (List.range n).all p = true ↔ ∀ i, i < n → p i = true := by simp [List.all_eq_true]
theorem lt_den (ρ : Env) (a b : E) : (B.not (.lt a b)).den ρ = true ↔ b.den ρ ≤ a.den ρ := by
  show (!(ltb (a.den ρ) (b.den ρ))) = true ↔ _
  rw [ltb_eq, Bool.not_eq_true', decide_eq_false_iff_not]; omega
theorem viewR_B (ρ : Env) (o : Nat) : (viewR o).den ρ = (viewB o).den ρ := by
  have hc := cntE_rg ρ 7 (by decide)
  rw [Bool.eq_iff_iff]
  unfold viewR viewB viewT
  rw [andB_den, andB_den]
  simp only [forall_app, forall_cons', lt_den, List.mem_map, forall_exists_index, and_imp, forall_apply_eq_imp_iff₂, hidB_den, List.mem_range]
  have ha := adm_den ρ o
  have hk : (E.lit 1).den ρ = 1 := rfl
  rw [hk]
  cases hall : (List.range 8).all (fun i => (okA o i).den ρ) with
  | true =>
    rw [hall, cond_true] at ha
    rw [ha]
    exact ⟨fun h => h.2, fun h => ⟨all_range.1 hall, h⟩⟩
  | false =>
    rw [hall, cond_false] at ha
    rw [ha]
    constructor
    · rintro ⟨h, _⟩
      rw [all_range.2 h] at hall; cases hall
    · rintro ⟨_, _, _, h1, h2, _⟩; omega
theorem view1_ok : ConOk Pr (viewC 119) := Con.hide (Con.ofExec hm cfT3_ok (fuel := 200) (depth := 12) rfl view1_t)
theorem view2_ok : ConOk Pr (viewC 140) := Con.hide (Con.eqB (Con.ofExec hm cfT3_ok (fuel := 200) (depth := 12) rfl view2_t) fun ρ => viewR_B ρ 0)
end Go.Proofs.YtmckhoaekbeijaaGreat.E
/- Sums of trees, of views: contracts. -/
namespace Go.Proofs.YtmckhoaekbeijaaGreat.E
open Go Go.RowKit
set_option maxRecDepth 100000
set_option linter.unusedVariables false
def catNums : List E → L
  | [] => .nil
  | [e] => numL e
  | e :: l => .cat (numL e) (catNums l)
theorem catNums_den (ρ : Env) : ∀ l : List E, (catNums l).den ρ = numsM (l.map (E.den ρ))
  | [] => rfl
  | [e] => by
    show numB (e.den ρ) = numB (e.den ρ) ++ []
    rw [List.append_nil]
  | e :: e' :: l => by
    show numB (e.den ρ) ++ (catNums (e' :: l)).den ρ = numB (e.den ρ) ++ numsM ((e' :: l).map (E.den ρ))
    rw [catNums_den ρ (e' :: l)]
def natsTo : List Nat → L → L
  | [], l => l
  | n :: ns, l => .cons (.lit (.ofNat n)) (natsTo ns l)
def zerosTo : Nat → L → L
  | 0, l => l
  | n + 1, l => .cons (.lit 0) (zerosTo n l)
def treeX : L := zerosTo 32 (natsTo [4, 116, 114, 101, 101] (catNums ((List.range 31).map fun i => .var i)))
def treeRow : L := consL ((List.range 31).map fun i => .var i)
def treeHC (f : FuncId) : Con := ⟨f, [.agg (treeA 0)], .leaf (.agg ((appE 32 110 treeRow .nil).map (V.int .u8)), [])⟩
theorem deriveM_wrap (h l p : List Int) : (deriveM h l p).map IntKind.u8.wrap = deriveM h l p := sumM_wrap _
theorem deriveM_len (h l p : List Int) : (deriveM h l p).length = 32 := sumM_len _
theorem J110 (t : List Int) : J 110 t [] = treeHashM t := by
  show cutJ 32 ((deriveM zero32 lTree (numsM (cutJ 31 t))).map IntKind.u8.wrap) = _
  rw [deriveM_wrap, cut_id (deriveM_len _ _ _)]; rfl
theorem treeX_den (ρ : Env) : sumM (treeX.den ρ) = treeHashM (treeRow.den ρ) := by
  unfold treeHashM deriveM
  have e : treeX.den ρ = zero32 ++ ((lTree.length : Int) :: (lTree ++ numsM (((List.range 31).map fun i => E.var i).map (E.den ρ)))) := by
    rw [← catNums_den]; rfl
  have e2 : cutJ 31 (treeRow.den ρ) = ((List.range 31).map fun i => E.var i).map (E.den ρ) := by
    unfold treeRow
    rw [consL_den]
    exact cut_id rfl
  rw [e, e2]
theorem treeH_of {f : FuncId} (h : ConOk Pr ⟨f, [.agg (treeA 0)], .leaf (.agg ((appE 32 11 treeX .nil).map (V.int .u8)), [])⟩) : ConOk Pr (treeHC f) := by
  refine Con.alt h fun ρ r' bs' hp hb => ?_
  cases hp
  refine ⟨_, _, rfl, hb, V.imp.ints ?_⟩
  rw [appE_den ρ 32 110 treeRow .nil rfl, appE_den ρ 32 11 treeX .nil rfl]
  show J 11 (treeX.den ρ) [] = J 110 (treeRow.den ρ) []
  rw [J11, J110, treeX_den]
noncomputable def cfH : Cf := ⟨tabC baseTab, lpC [], noMg⟩
theorem cfH_ok : CfOk Pr cfH := cfOk_mk baseTab_ok all_nil
theorem treeH1_ok : ConOk Pr (treeHC 213) := treeH_of (Con.ofExec hm cfH_ok rfl (fuel := 400) (depth := 20) (by kernel_rfl))
theorem treeH2_ok : ConOk Pr (treeHC 225) := treeH_of (Con.ofExec hm cfH_ok rfl (fuel := 400) (depth := 20) (by kernel_rfl))
/-! views -/
def flagE (i : Nat) : E := .ite (.var i) (.lit 1) (.lit 0)
def flagsTo : List Nat → L → L
  | [], l => l
  | i :: is, l => .cons (flagE i) (flagsTo is l)
def treeRow1 : L := consL ((List.range 31).map fun i => .var (1 + i))
def tree1 : L := .app 110 treeRow1 .nil
def tree2 : L := consL ((List.range 32).map fun i => .get tree1 (.lit (.ofNat i)))
def viewX (t : L) : L := .cat (h32 0) (natsTo [4, 118, 105, 101, 119] (.cat (numL (.var 0)) (.cat (numL (.var 32)) (flagsTo (List.range 8) t))))
def viewEs : List E := ((List.range 32).map fun i => .var i) ++ (((List.range 8).map flagE) ++ [.var 32])
def viewRow : L := .cat (consL viewEs) (h32 0)
def viewHC (f : FuncId) : Con := ⟨f, [viewA], .leaf (.agg ((appE 32 109 viewRow .nil).map (V.int .u8)), [])⟩
theorem J109 (t : List Int) : J 109 t [] = viewHashM t := by
  show cutJ 32 ((viewHashM t).map IntKind.u8.wrap) = _
  unfold viewHashM
  rw [deriveM_wrap, cut_id (deriveM_len _ _ _)]
theorem subL_len (l : List Int) (o n : Nat) : (subL l o n).length = n := by unfold subL; simp
theorem tree1_den (ρ : Env) : tree1.den ρ = treeHashM (treeRow1.den ρ) := J110 _
theorem tree2_den (ρ : Env) : tree2.den ρ = tree1.den ρ := by
  unfold tree2
  rw [consL_den, List.map_map]
  have e : (E.den ρ ∘ fun i : Nat => E.get tree1 (.lit (.ofNat i))) = fun i => (tree1.den ρ).getD i 0 := by
    funext i
    show (tree1.den ρ).getD ((i : Int)).toNat 0 = _
    rw [Int.toNat_natCast]
  rw [e]
  refine range_getD (d := (0 : Int)) _ 32 ?_
  rw [tree1_den]
  exact deriveM_len _ _ _
theorem viewRow_parts (v41 : List Int) (c : List Int) (h : v41.length = 41) : (v41 ++ c).drop 41 = c ∧ (v41 ++ c).getD 0 0 = v41.getD 0 0 ∧ (v41 ++ c).getD 40 0 = v41.getD 40 0 ∧ cutJ 8 ((v41 ++ c).drop 32) = cutJ 8 (v41.drop 32) ∧ cutJ 31 ((v41 ++ c).drop 1) = cutJ 31 (v41.drop 1) := by
  have g : ∀ i, i < 41 → (v41 ++ c).getD i 0 = v41.getD i 0 := fun i hi => by
    rw [List.getD, List.getD, List.getElem?_append_left (by omega)]
  refine ⟨?_, g 0 (by omega), g 40 (by omega), ?_, ?_⟩
  · rw [List.drop_append_of_le_length (by omega), List.drop_eq_nil_of_le (by omega)]; rfl
  · unfold cutJ
    refine List.map_congr_left fun i hi => ?_
    have hi := List.mem_range.1 hi
    have := g (32 + i) (by omega)
    rw [List.getD, List.getElem?_drop, List.getD, List.getElem?_drop]
    exact this
  · unfold cutJ
    refine List.map_congr_left fun i hi => ?_
    have hi := List.mem_range.1 hi
    have := g (1 + i) (by omega)
    rw [List.getD, List.getElem?_drop, List.getD, List.getElem?_drop]
    exact this
theorem viewX_den (ρ : Env) {t : L} (ht : t.den ρ = treeHashM (treeRow1.den ρ)) : sumM ((viewX t).den ρ) = viewHashM (viewRow.den ρ) := by
  have e : (viewX t).den ρ = subL (ρ.l 0) 0 32 ++ ((lView.length : Int) :: (lView ++ (numB (ρ.e 0) ++ (numB (ρ.e 32) ++ (((List.range 8).map fun i => (flagE i).den ρ) ++ t.den ρ))))) := rfl
  have hv : viewRow.den ρ = viewEs.map (E.den ρ) ++ subL (ρ.l 0) 0 32 := by
    show (consL viewEs).den ρ ++ _ = _
    rw [consL_den]; rfl
  obtain ⟨p1, p2, p3, p4, p5⟩ := viewRow_parts (viewEs.map (E.den ρ)) (subL (ρ.l 0) 0 32) rfl
  rw [e, ht, hv]
  unfold viewHashM treeHashM
  rw [p1, p2, p3, p4, p5, cut_id (subL_len _ _ _)]
  have q5 : cutJ 31 ((viewEs.map (E.den ρ)).drop 1) = cutJ 31 (treeRow1.den ρ) := by
    unfold treeRow1
    rw [consL_den]; rfl
  rw [q5]
  unfold deriveM
  congr 2
theorem viewH_of {f : FuncId} {t : L} (ht : ∀ ρ, t.den ρ = treeHashM (treeRow1.den ρ)) (h : ConOk Pr ⟨f, [viewA], .leaf (.agg ((appE 32 11 (viewX t) .nil).map (V.int .u8)), [])⟩) : ConOk Pr (viewHC f) := by
  refine Con.alt h fun ρ r' bs' hp hb => ?_
  cases hp
  refine ⟨_, _, rfl, hb, V.imp.ints ?_⟩
  rw [appE_den ρ 32 109 viewRow .nil rfl, appE_den ρ 32 11 (viewX t) .nil rfl]
  show J 11 ((viewX t).den ρ) [] = J 109 (viewRow.den ρ) []
  rw [J11, J109, viewX_den ρ (ht ρ)]
noncomputable def cfH2 : Cf := ⟨tabC (treeHC 213 :: treeHC 225 :: baseTab), lpC [], allMg⟩
theorem cfH2_ok : CfOk Pr cfH2 := cfOk_mk (all_cons treeH1_ok (all_cons treeH2_ok baseTab_ok)) all_nil
theorem viewH1_ok : ConOk Pr (viewHC 130) := viewH_of (t := tree1) tree1_den (Con.ofExec hm cfH2_ok rfl (fuel := 400) (depth := 20) (by kernel_rfl))
theorem viewH2_ok : ConOk Pr (viewHC 157) := viewH_of (t := tree2) (fun ρ => (tree2_den ρ).trans (tree1_den ρ)) (Con.ofExec hm cfH2_ok rfl (fuel := 400) (depth := 20) (by kernel_rfl))
noncomputable def viewTab : List Con := [viewHC 130, viewHC 157, viewC 119, viewC 140]
theorem viewTab_ok : ∀ c ∈ viewTab, ConOk Pr c := all_cons viewH1_ok (all_cons viewH2_ok (all_cons view1_ok (all_cons view2_ok all_nil)))
end Go.Proofs.YtmckhoaekbeijaaGreat.E
/- Signatures: contracts. -/
namespace Go.Proofs.YtmckhoaekbeijaaGreat.E
open Go Go.RowKit
set_option maxRecDepth 100000
set_option linter.unusedVariables false
def nonceX : L := zerosTo 32 (natsTo [5, 110, 111, 110, 99, 101] (.cat (fourL (.var 0)) (.var 1)))
def nonceE : E := scalE (.app 11 nonceX .nil)
def challX : L := zerosTo 32 (natsTo [4, 115, 105, 103, 110] (.cat (fourL (powE (.lit 4) nonceE)) (.cat (fourL (powE (.lit 4) (.var 0))) (.var 1))))
def challE : E := numbE (.app 11 challX .nil)
def signEs : List E := [challE, .bin .rem .i64 (.bin .add .i64 nonceE (.bin .mul .i64 challE (.var 0))) (.lit 1073741789)]
def signL : L := .cons (.var 0) (.var 1)
def signC (f : FuncId) (k : V) : Con := ⟨f, [k, frow 1], .leaf (.agg ((appE 2 107 signL .nil).map (V.int .i64)), [lenOk (.var 1) 900000000])⟩
theorem app11_den (ρ : Env) (X : L) : (L.app 11 X .nil).den ρ = sumM (X.den ρ) := J11 _
theorem nonceE_den (ρ : Env) : nonceE.den ρ = scalM (deriveM zero32 lNonce (fourM (ρ.e 0) ++ ρ.l 1)) := by
  unfold nonceE
  rw [scalE_den, app11_den]
  have e : nonceX.den ρ = zero32 ++ ((lNonce.length : Int) :: (lNonce ++ ((fourL (.var 0)).den ρ ++ ρ.l 1))) := rfl
  rw [e, fourL_den]; rfl
theorem challE_den (ρ : Env) : challE.den ρ = challM (powM 4 (scalM (deriveM zero32 lNonce (fourM (ρ.e 0) ++ ρ.l 1)))) (powM 4 (ρ.e 0)) (ρ.l 1) := by
  unfold challE
  rw [numbE_den, app11_den]
  have e : challX.den ρ = zero32 ++ ((lSign.length : Int) :: (lSign ++ ((fourL (powE (.lit 4) nonceE)).den ρ ++ ((fourL (powE (.lit 4) (.var 0))).den ρ ++ ρ.l 1)))) := rfl
  rw [e, fourL_den, fourL_den, powE_den, powE_den, nonceE_den]; rfl
theorem tmod_rg (x : Int) : -1073741789 < x.tmod 1073741789 ∧ x.tmod 1073741789 < 1073741789 := by
  have h1 := Int.tmod_lt_of_pos x (b := 1073741789) (by decide)
  have h2 : -1073741789 < x.tmod 1073741789 := by
    have := Int.tmod_lt_of_pos (-x) (b := 1073741789) (by decide)
    rw [Int.neg_tmod] at this
    omega
  exact ⟨h2, h1⟩
theorem signM_wrap (x : Int) (p : List Int) : cutJ 2 ((signM x p).map IntKind.i64.wrap) = signM x p := by
  have e : (signM x p).map IntKind.i64.wrap = signM x p := by
    unfold signM
    simp only [List.map_cons, List.map_nil, List.cons.injEq, and_true]
    refine ⟨?_, ?_⟩
    · unfold challM
      have := numbM_rg (deriveM zero32 lSign (fourM (powM 4 (scalM (deriveM zero32 lNonce (fourM x ++ p)))) ++ (fourM (powM 4 x) ++ p)))
      exact wrap31 (by omega) (by omega)
    · have := tmod_rg (IntKind.i64.wrap (scalM (deriveM zero32 lNonce (fourM x ++ p)) + IntKind.i64.wrap (challM (powM 4 (scalM (deriveM zero32 lNonce (fourM x ++ p)))) (powM 4 x) p * x)))
      exact wrap_id .i64 _ (by show (-9223372036854775808 : Int) ≤ _; omega) (by show _ ≤ (9223372036854775807 : Int); omega)
  rw [e]
  exact cut_id rfl
theorem signEs_den (ρ : Env) : signEs.map (E.den ρ) = (appE 2 107 signL .nil).map (E.den ρ) := by
  rw [appE_den ρ 2 107 signL .nil rfl]
  show _ = J 107 (ρ.e 0 :: ρ.l 1) []
  have e : J 107 (ρ.e 0 :: ρ.l 1) [] = signM (ρ.e 0) (ρ.l 1) := signM_wrap _ _
  rw [e]
  show [challE.den ρ, (IntKind.i64.wrap (nonceE.den ρ + IntKind.i64.wrap (challE.den ρ * ρ.e 0))).tmod 1073741789] = _
  rw [challE_den, nonceE_den]; rfl
theorem fourM_len (n : Int) : (fourM n).length = 4 := rfl
theorem sign_lens (ρ : Env) : (nonceX.den ρ).length = 42 + (ρ.l 1).length ∧ (challX.den ρ).length = 45 + (ρ.l 1).length := by
  have e1 : nonceX.den ρ = zero32 ++ ((lNonce.length : Int) :: (lNonce ++ ((fourL (.var 0)).den ρ ++ ρ.l 1))) := rfl
  have e2 : challX.den ρ = zero32 ++ ((lSign.length : Int) :: (lSign ++ ((fourL (powE (.lit 4) nonceE)).den ρ ++ ((fourL (powE (.lit 4) (.var 0))).den ρ ++ ρ.l 1)))) := rfl
  have l1 : zero32.length = 32 := rfl
  have l2 : lNonce.length = 5 := rfl
  have l3 : lSign.length = 4 := rfl
  constructor
  · rw [e1, List.length_append, List.length_cons, List.length_append, List.length_append, fourL_den, fourM_len, l1, l2]; omega
  · rw [e2, List.length_append, List.length_cons, List.length_append, List.length_append, List.length_append, fourL_den, fourL_den, fourM_len, fourM_len, l1, l3]; omega
theorem sign_of {f : FuncId} {k : V} {oks : List B} (h : ConOk Pr ⟨f, [k, frow 1], .leaf (.agg (signEs.map (V.int .i64)), oks)⟩) (ho : ∀ ρ, ((ρ.l 1).length : Int) < 900000000 → okOk ρ oks) : ConOk Pr (signC f k) := by
  refine Con.alt h fun ρ r' bs' hp hb => ?_
  cases hp
  have h1 : ltb (((ρ.l 1).length : Nat) : Int) 900000000 = true := hb _ (List.mem_cons_self ..)
  exact ⟨_, _, rfl, ho ρ (ltb_ok h1), V.imp.ints (signEs_den ρ)⟩
def refKey : V := .agg [ival 0, .int .i64 (powE (.lit 4) (.var 0))]
theorem sign1_ok : ConOk Pr (signC 64 (keyV 0)) := sign_of (oks := [lenOk challX 1000000000, lenOk nonceX 1000000000]) (Con.ofExec hm cfH_ok rfl (fuel := 400) (depth := 20) (by kernel_rfl)) fun ρ h b hb => by
  obtain ⟨l1, l2⟩ := sign_lens ρ
  simp only [List.mem_cons, List.not_mem_nil, or_false] at hb
  rcases hb with rfl | rfl
  · exact lenOk_of (by omega)
  · exact lenOk_of (by omega)
def challT : L := .cat (fourL (powE (.lit 4) nonceE)) (.cat (fourL (powE (.lit 4) (.var 0))) (.var 1))
theorem sign2_ok : ConOk Pr (signC 79 refKey) := sign_of (oks := [lenOk challX 1000000000, lenOk challT 1073741824, lenOk nonceX 1000000000, lenOk (.cat (fourL (.var 0)) (.var 1)) 1073741824]) (Con.ofExec hm cfH_ok rfl (fuel := 400) (depth := 20) (by kernel_rfl)) fun ρ h b hb => by
  obtain ⟨l1, l2⟩ := sign_lens ρ
  simp only [List.mem_cons, List.not_mem_nil, or_false] at hb
  rcases hb with rfl | rfl | rfl | rfl
  · exact lenOk_of (by omega)
  · refine lenOk_of ?_
    show (((fourL (powE (.lit 4) nonceE)).den ρ ++ ((fourL (powE (.lit 4) (.var 0))).den ρ ++ ρ.l 1)).length : Int) < _
    rw [List.length_append, List.length_append, fourL_den, fourL_den, fourM_len, fourM_len]; omega
  · exact lenOk_of (by omega)
  · refine lenOk_of ?_
    show (((fourL (.var 0)).den ρ ++ ρ.l 1).length : Int) < _
    rw [List.length_append, fourL_den, fourM_len]; omega
noncomputable def signTab : List Con := [signC 64 (keyV 0), signC 79 refKey]
theorem signTab_ok : ∀ c ∈ signTab, ConOk Pr c := all_cons sign1_ok (all_cons sign2_ok all_nil)
end Go.Proofs.YtmckhoaekbeijaaGreat.E
/- A party alone; tables. -/
namespace Go.Proofs.YtmckhoaekbeijaaGreat.E
open Go Go.RowKit
set_option maxRecDepth 100000
set_option linter.unusedVariables false
def zI : V := .int .i64 (.lit 0)
/-- is there a member at place 0? -/
def memC (f : FuncId) : Con := ⟨f, [viewA, zI], .leaf (.bool (hideB (.not (.and (zB (.var 1)) (zB (.var 2))))), [])⟩
theorem mem1_ok : ConOk Pr (memC 121) := Con.hide (Con.ofExec hm cfH_ok rfl (fuel := 400) (depth := 20) (by kernel_rfl))
theorem mem2_ok : ConOk Pr (memC 142) := Con.hide (Con.ofExec hm cfH_ok rfl (fuel := 400) (depth := 20) (by kernel_rfl))
noncomputable def memTab : List Con := [memC 121, memC 142]
theorem memTab_ok : ∀ c ∈ memTab, ConOk Pr c := all_cons mem1_ok (all_cons mem2_ok all_nil)
noncomputable def parTab : List Con := memTab ++ (signTab ++ (viewTab ++ (crTab ++ baseTab)))
theorem parTab_ok : ∀ c ∈ parTab, ConOk Pr c := all_app memTab_ok (all_app signTab_ok (all_app viewTab_ok (all_app crTab_ok baseTab_ok)))
noncomputable def cfV : Cf := ⟨tabF bodTab (tabC parTab), lpC [], noMg⟩
theorem cfV_ok : CfOk Pr cfV := ⟨fun ρ => tabF_ok (tabC_ok parTab_ok) bodTab_ok, fun ρ => lpC_ok all_nil⟩
/-- a view of one alone: numbers 0 .. 5, its chain row 0. -/
def soloNodes (k1 k2 k3 : E) : List V := [zI, .int .i64 k1, zI, .int .i64 k2, zI, zI, zI, .int .i64 k3] ++ zer .i64 7
def soloView (e s l k1 k2 k3 : E) (ch : L) : List V := [.int .i64 e, .int .i64 s, .int .i64 l] ++ zer .i64 14 ++ soloNodes k1 k2 k3 ++ (.bool (.lit true) :: fls 7) ++ (.int .i64 (.lit 1) :: u8s ch)
def soloPA (view : List V) (x : E) (own : L) (has : List V) (n1 n2 n3 ep ini : L) : List V := view ++ [zI, .key KT x] ++ u8s own ++ has ++ u8s n1 ++ u8s n2 ++ u8s n3 ++ u8s ep ++ u8s ini
def soloV0 : List V := soloView (.var 0) (.var 1) (.var 2) (.var 3) (.var 4) (.var 5) (.var 0)
def soloP : V := feV (soloPA soloV0 (.var 6) (.var 1) [.bool (.var 0), .bool (.var 1), .bool (.var 2)] (.var 2) (.var 3) (.var 4) (.var 5) (.var 6))
end Go.Proofs.YtmckhoaekbeijaaGreat.E
/- Commits of one alone, without operations: contracts. -/
namespace Go.Proofs.YtmckhoaekbeijaaGreat.E
open Go Go.RowKit
set_option maxRecDepth 100000
set_option linter.unusedVariables false
def lPath : List Nat := [112, 97, 116, 104]
def cO : L := derL (h32 7) [108, 101, 97, 102]
def cU1 : L := derL cO lPath
def cU2 : L := derL cU1 lPath
def cU3 : L := derL cU2 lPath
def cU4 : L := derL cU3 lPath
def cS : E := pubE (sNode cO)
def cK1 : E := pubE (sNode cU1)
def cK2 : E := pubE (sNode cU2)
def cK3 : E := pubE (sNode cU3)
/-- a commit's body, and what follows. -/
def cBody (rest : L) : L := .cat (numL (.var 0)) (zerosTo 24 (.cat (numL cS) (.cat (numL cK1) (.cat (numL cK2) (.cat (numL cK3) (zerosTo 8 rest))))))
/-- a sum of a sum, a label, a row. -/
def derR (h : L) (label : List Nat) (row : L) : L := .app 11 (.cat h (natsTo (label.length :: label) row)) .nil
def cChain : L := derR (h32 0) [99, 104, 97, 105, 110] (cBody .nil)
def cEp1 : E := .bin .add .i64 (.var 0) (.lit 1)
def consTo : List E → L → L
  | [], l => l
  | e :: es, l => .cons e (consTo es l)
def cViewEs : List E := [cEp1, .var 1, cS] ++ List.replicate 14 (.lit 0) ++ [.lit 0, cK1, .lit 0, cK2, .lit 0, .lit 0, .lit 0, cK3] ++ List.replicate 7 (.lit 0) ++ (.lit 1 :: List.replicate 7 (.lit 0)) ++ [.lit 1]
def cJoint : L := derR (h32 6) [106, 111, 105, 110, 116] cU4
def cEpoch : L := derR cJoint [101, 112, 111, 99, 104] (.app 109 (consTo cViewEs cChain) .nil)
def cInit : L := derL cEpoch [105, 110, 105, 116]
def cTag : L := derL cEpoch [116, 97, 103]
def cSig : List E := appE 2 107 (.cons (.var 6) (cBody (.sub cTag 0 32))) .nil
def emp (z : Nat) : V := .fs z (.any [])
def commitV (ops votes : V) : V := .agg ([.int .i64 (.var 0), zI, ops, votes, .int .i64 cS, .int .i64 cK1, .int .i64 cK2, .int .i64 cK3, nilArg] ++ u8s cTag ++ cSig.map (V.int .i64))
def commit0 : V := .agg ([zI, zI, nilArg, nilArg, zI, zI, zI, zI, nilArg] ++ zer .u8 32 ++ [zI, zI])
def soloN : V := feV (soloPA (soloView cEp1 (.var 1) cS cK1 cK2 cK3 cChain) (.var 6) cO (List.replicate 3 (.bool (.lit true))) cU1 cU2 cU3 cEpoch cInit)
def nilP : V := .sc (.pointer none)
def errT (n : Int) : T (V × List B) := .leaf (.tup [commit0, nilArg, nilP, .int .i64 (.lit n)], [])
def soloS : Sub := ⟨[.var 0, .var 1, .var 2] ++ List.replicate 14 (.lit 0) ++ [.lit 0, .var 3, .lit 0, .var 4, .lit 0, .lit 0, .lit 0, .var 5] ++ List.replicate 7 (.lit 0) ++ [.lit 1], [.var 0], [], .lit true :: List.replicate 7 (.lit false), .ix⟩
def h1B : B := (hideB (viewB 0)).sub soloS
def h2B : B := hideB (.not (.and (zB (.var 1)) (zB (.var 2))))
def h3B : B := .lt (.var 0) (.lit 1099511627776)
def soloT : T (V × List B) := .br h1B (.br h2B (.br h3B (.leaf (.tup [commitV (emp 5) (emp 3), nilArg, soloN, zI], [])) (errT 12)) (errT 6)) (errT 1)
def soloC (f : FuncId) : Con := ⟨f, [soloP, nilArg, nilArg, hV 7], soloT⟩
theorem solo1_ok : ConOk Pr (soloC 17) := Con.ofExec hm cfV_ok rfl (fuel := 400) (depth := 20) (by kernel_rfl)
end Go.Proofs.YtmckhoaekbeijaaGreat.E
/- Commits of one alone, the reference's: contract. -/
namespace Go.Proofs.YtmckhoaekbeijaaGreat.E
open Go Go.RowKit
set_option maxRecDepth 100000
set_option linter.unusedVariables false
def rowsZ (n : Nat) : List V := zer .u8 (32 * n)
def soloRA (view : List V) (x : E) (s0 s1 s3 s7 : List V) (has : List V) (ep ini : L) : List V := view ++ [zI, .int .i64 x, .int .i64 (powE (.lit 4) x)] ++ (s0 ++ s1 ++ rowsZ 1 ++ s3 ++ rowsZ 3 ++ s7 ++ rowsZ 7) ++ has ++ u8s ep ++ u8s ini
def fB : V := .bool (.lit false)
def tB1 : V := .bool (.lit true)
def hasR (a b c : V) : List V := [tB1, a, fB, b, fB, fB, fB, c] ++ fls 7
def soloR : V := feV (soloRA soloV0 (.var 6) (u8s (.var 1)) (u8s (.var 2)) (u8s (.var 3)) (u8s (.var 4)) (hasR (.bool (.var 0)) (.bool (.var 1)) (.bool (.var 2))) (.var 5) (.var 6))
def soloRN : V := feV (soloRA (soloView cEp1 (.var 1) cS cK1 cK2 cK3 cChain) (.var 6) (u8s cO) (u8s cU1) (u8s cU2) (u8s cU3) (hasR tB1 tB1 tB1) cEpoch cInit)
def soloRT : T (V × List B) := .br h1B (.br h2B (.br h3B (.leaf (.tup [commitV nilArg nilArg, nilArg, soloRN, zI], [])) (errT 12)) (errT 6)) (errT 1)
def soloRC (f : FuncId) : Con := ⟨f, [soloR, nilArg, nilArg, hV 7], soloRT⟩
theorem solo2_ok : ConOk Pr (soloRC 18) := Con.ofExec hm cfV_ok rfl (fuel := 400) (depth := 20) (by kernel_rfl)
noncomputable def soloTab : List Con := [soloC 17, soloRC 18]
theorem soloTab_ok : ∀ c ∈ soloTab, ConOk Pr c := all_cons solo1_ok (all_cons solo2_ok all_nil)
noncomputable def cfSo : Cf := ⟨tabF bodTab (tabC (soloTab ++ parTab)), lpC [], noMg⟩
theorem cfSo_ok : CfOk Pr cfSo := ⟨fun ρ => tabF_ok (tabC_ok (all_app soloTab_ok parTab_ok)) bodTab_ok, fun ρ => lpC_ok all_nil⟩
def knC (f : FuncId) : Con := ⟨f, [], .leaf (.bool (.lit true), [])⟩
end Go.Proofs.YtmckhoaekbeijaaGreat.E
/- The audit laws' known(): contract. -/
namespace Go.Proofs.YtmckhoaekbeijaaGreat.E
open Go Go.RowKit
set_option maxRecDepth 100000
set_option linter.unusedVariables false
theorem kn15_ok : ConOk Pr (knC 25) := Con.ofExec hm cfSo_ok rfl (fuel := 400) (depth := 20) (by kernel_rfl)
noncomputable def cfA15 : Cf := ⟨tabF bodTab (tabC (knC 25 :: (soloTab ++ parTab))), lpC [], noMg⟩
theorem cfA15_ok : CfOk Pr cfA15 := ⟨fun ρ => tabF_ok (tabC_ok (all_cons kn15_ok (all_app soloTab_ok parTab_ok))) bodTab_ok, fun ρ => lpC_ok all_nil⟩
end Go.Proofs.YtmckhoaekbeijaaGreat.E
/- AuditForks: the law. -/
namespace Go.Proofs.YtmckhoaekbeijaaGreat.E
open Go Go.RowKit
set_option maxRecDepth 100000
set_option linter.unusedVariables false
theorem AuditForks_by {xs : List Value} {W : World} (hA : ArgsRd Pr W [(3, intK), (3, intK)] xs) : Calls Pr 4 xs.toArray W (fun e W' => e = .returned (.bool true) ∧ Below W.heap.size W W') :=
  law_by hm cfA15_ok (fuel := 400) (depth := 20) _ hA [] (fun ρ h r hr => by cases hr) (by kernel_rfl)
end Go.Proofs.YtmckhoaekbeijaaGreat.E
