/- Products and powers round a prime: contracts. -/
import Derived.Test.YtlghaoohfklpnaaProg
import Derived.Test.YtlghaoohfklpnaaFD
import Derived.KernelRfl
namespace Go.Proofs.Ytlghaoohfklpnaa.E
open Go Go.RowKit
set_option maxRecDepth 100000
set_option linter.unusedVariables false
noncomputable abbrev Pr : Program := Try.prog
theorem hm : Pr.follows .mixedOrders = true := by kernel_rfl
def ival (i : Nat) : V := .int .i64 (.var i)
def cf0 : Cf := ⟨tabC [], lpC [], noMg⟩
theorem cf0_ok : CfOk Pr cf0 := cfOk_mk all_nil all_nil
def mulR (a b : E) : E := .get (.app 1 (.cons a (.cons b .nil)) .nil) (.lit 0)
def mulC (f : FuncId) : Con := ⟨f, [ival 0, ival 1], .leaf (.int .i64 (mulR (.var 0) (.var 1)), [])⟩
def mulT : T (V × List B) := .br (.lt (.var 0) (.lit 0)) (.leaf (.int .i64 (.lit 0), [])) (.br (.lt (.var 0) (.lit 2147483579)) (.br (.lt (.var 1) (.lit 0)) (.leaf (.int .i64 (.lit 0), [])) (.br (.lt (.var 1) (.lit 2147483579)) (.leaf (.int .i64 (.bin .rem .i64 (.bin .mul .i64 (.var 0) (.var 1)) (.lit 2147483579)), [])) (.leaf (.int .i64 (.lit 0), [])))) (.leaf (.int .i64 (.lit 0), [])))
theorem blt_eq (x y : Nat) : Nat.blt x y = decide (x < y) := by rw [Bool.eq_iff_iff]; simp [Nat.blt]; try omega
theorem mulM_lo {a b : Int} (h : a < 0 ∨ b < 0) : mulM a b = 0 := by
  unfold mulM
  split
  · rename_i x y; simp at h; omega
  · rfl
theorem mulM_hi {a b : Int} (h : 2147483579 ≤ a ∨ 2147483579 ≤ b) : mulM a b = 0 := by
  unfold mulM
  split
  · rename_i x y
    have : (Nat.blt x 2147483579 && Nat.blt y 2147483579) = false := by
      rw [blt_eq, blt_eq, Bool.and_eq_false_iff]
      simp only [Int.ofNat_eq_natCast] at h
      simp only [decide_eq_false_iff_not]
      omega
    rw [this]; rfl
  · rfl
theorem mulM_in {a b : Int} (h1 : 0 ≤ a) (h2 : a < 2147483579) (h3 : 0 ≤ b) (h4 : b < 2147483579) : mulM a b = binI .rem .i64 (binI .mul .i64 a b) 2147483579 := by
  obtain ⟨x, rfl⟩ : ∃ x : Nat, a = x := ⟨a.toNat, by omega⟩
  obtain ⟨y, rfl⟩ : ∃ y : Nat, b = y := ⟨b.toNat, by omega⟩
  have e1 : (Nat.blt x 2147483579 && Nat.blt y 2147483579) = true := by simp [Nat.blt]; omega
  have hxy : x * y ≤ 2147483578 * 2147483578 := Nat.mul_le_mul (by omega) (by omega)
  have e2 : IntKind.i64.wrap ((x : Int) * y) = ((x * y : Nat) : Int) := by
    rw [← Int.natCast_mul]
    refine wrap_id _ _ ?_ ?_
    · show (-9223372036854775808 : Int) ≤ _; omega
    · show _ ≤ (9223372036854775807 : Int); omega
  show (bif Nat.blt x 2147483579 && Nat.blt y 2147483579 then Int.ofNat (x * y % 2147483579) else 0) = _
  rw [e1]
  simp only [binI, e2, cond_true]
  rfl
theorem mulM_rg (a b : Int) : 0 ≤ mulM a b ∧ mulM a b < 2147483579 := by
  unfold mulM
  split
  · rename_i x y
    cases Nat.blt x 2147483579 && Nat.blt y 2147483579 with
    | true => simp only [cond_true, Int.ofNat_eq_natCast]; omega
    | false => simp only [cond_false]; omega
  · omega
theorem wrap_lt {x : Int} (h1 : 0 ≤ x) (h2 : x < 2147483579) : IntKind.i64.wrap x = x := wrap_id _ _ (by show (-9223372036854775808 : Int) ≤ _; omega) (by show _ ≤ (9223372036854775807 : Int); omega)
theorem mulR_den (ρ : Env) (a b : E) : (mulR a b).den ρ = mulM (a.den ρ) (b.den ρ) := by
  show IntKind.i64.wrap (mulM (a.den ρ) (b.den ρ)) = _
  exact wrap_lt (mulM_rg _ _).1 (mulM_rg _ _).2
theorem mulC_of {f : FuncId} (h : shutT (exec Pr cf0 100 10 f [ival 0, ival 1]) = mulT) : ConOk Pr (mulC f) := by
  refine Con.alt (Con.ofExec hm cf0_ok rfl h) fun ρ r' bs' hp hb => ?_
  cases hp
  have key : ∀ e : E, e.den ρ = mulM (ρ.e 0) (ρ.e 1) → V.imp ρ (.int .i64 e) (.int .i64 (mulR (.var 0) (.var 1))) := fun e he => V.imp.int (by rw [he, mulR_den]; rfl)
  simp only [mulT, T.pick, B.den, E.den]
  cases h1 : ltb (ρ.e 0) 0 with
  | true => exact ⟨_, _, rfl, hb, key _ (by rw [mulM_lo (.inl (ltb_ok h1))]; rfl)⟩
  | false =>
    cases h2 : ltb (ρ.e 0) 2147483579 with
    | false => exact ⟨_, _, rfl, hb, key _ (by rw [mulM_hi (.inl (ltb_no h2))]; rfl)⟩
    | true =>
      cases h3 : ltb (ρ.e 1) 0 with
      | true => exact ⟨_, _, rfl, hb, key _ (by rw [mulM_lo (.inr (ltb_ok h3))]; rfl)⟩
      | false =>
        cases h4 : ltb (ρ.e 1) 2147483579 with
        | false => exact ⟨_, _, rfl, hb, key _ (by rw [mulM_hi (.inr (ltb_no h4))]; rfl)⟩
        | true => exact ⟨_, _, rfl, hb, key _ (by rw [mulM_in (ltb_no h1) (ltb_ok h2) (ltb_no h3) (ltb_ok h4)]; rfl)⟩
theorem mul1_ok : ConOk Pr (mulC 148) := mulC_of (by kernel_rfl)
theorem mul2_ok : ConOk Pr (mulC 119) := mulC_of (by kernel_rfl)
/-- a loop's rounds. -/
def powH : LHead := ⟨[(0, ival 0), (1, ival 1), (5, ival 2)], 0, [], []⟩
def powE3 (b e n : E) : E := .get (.app 3 (.cons b (.cons e (.cons n .nil))) .nil) (.lit 0)
def powRes : T LRes := .leaf ⟨.exit 0, [(5, .int .i64 (powE3 (.var 0) (.var 1) (.var 2)))], 0, [], [.not (.lt (.var 1) (.lit 0)), .not (.lt (.lit 1073741789) (.var 1)), .not (.lt (.var 2) (.lit 0)), .lt (.var 2) (.lit 2147483579)]⟩
def powT : T LEnd := .br (.lt (.lit 0) (.var 1)) (.br (.eq (.bin .and .i64 (.var 1) (.lit 1)) (.lit 1)) (.leaf (.go ⟨[mulR (.var 0) (.var 0), .bin .shr .i64 (.var 1) (.lit 1), mulR (.var 2) (.var 0)], [], [], [], .ix⟩ [])) (.leaf (.go ⟨[mulR (.var 0) (.var 0), .bin .shr .i64 (.var 1) (.lit 1), .var 2], [], [], [], .ix⟩ []))) (.leaf (.out ⟨.exit 0, [(5, .int .i64 (.var 2))], 0, [], []⟩))
theorem and1 (x : Nat) (h : x < 4611686018427387904) : binI .and .i64 x 1 = ((x % 2 : Nat) : Int) := by
  simp only [binI]
  have : (BitVec.ofInt IntKind.i64.bits (x : Int) &&& BitVec.ofInt IntKind.i64.bits 1).toNat = x % 2 := by
    show (BitVec.ofInt 64 (x : Int) &&& BitVec.ofInt 64 1).toNat = x % 2
    rw [BitVec.ofInt_natCast, BitVec.toNat_and, BitVec.toNat_ofNat]
    show (x % 2 ^ 64) &&& 1 = x % 2
    rw [Nat.and_one_is_mod]
    omega
  rw [this]
  refine wrap_id _ _ ?_ ?_
  · show (-9223372036854775808 : Int) ≤ _; omega
  · show _ ≤ (9223372036854775807 : Int); omega
theorem shr1 (x : Nat) : binI .shr .i64 x 1 = ((x / 2 : Nat) : Int) := by
  simp only [binI]
  rw [Int.fdiv_eq_ediv_of_nonneg _ (by decide)]
  simp [IntKind.bits]
theorem powL_rg : ∀ (k : Nat) (b : Int) (e : Nat) (n : Int), 0 ≤ n → n < 2147483579 → 0 ≤ powL k b e n ∧ powL k b e n < 2147483579
  | 0, _, _, n, h1, h2 => ⟨h1, h2⟩
  | k + 1, b, e, n, h1, h2 => by
    unfold powL
    cases Nat.beq e 0 with
    | true => exact ⟨h1, h2⟩
    | false =>
      rw [cond_false]
      cases Nat.beq (e % 2) 1 with
      | true => exact powL_rg k _ _ _ (mulM_rg _ _).1 (mulM_rg _ _).2
      | false => exact powL_rg k _ _ _ h1 h2
/-- from enough rounds on it is one number. -/
theorem powL_more : ∀ (k : Nat) (b : Int) (x : Nat) (n : Int), x < 2 ^ k → powL (k + 1) b x n = powL k b x n
  | 0, b, x, n, h => by obtain rfl : x = 0 := by omega
                        rfl
  | k + 1, b, x, n, h => by
    conv => lhs; unfold powL
    conv => rhs; unfold powL
    cases Nat.beq x 0 with
    | true => rfl
    | false => rw [cond_false, cond_false]; exact powL_more k _ _ _ (by omega)
theorem powE3_den (ρ : Env) (b e n : E) (h1 : 0 ≤ n.den ρ) (h2 : n.den ρ < 2147483579) : (powE3 b e n).den ρ = powL 62 (b.den ρ) (e.den ρ).toNat (n.den ρ) := by
  show IntKind.i64.wrap (powL 62 (b.den ρ) (e.den ρ).toNat (n.den ρ)) = _
  have := powL_rg 62 (b.den ρ) (e.den ρ).toNat (n.den ρ) h1 h2
  exact wrap_lt this.1 this.2
theorem powH_ok {f m : FuncId} (hmul : ConOk Pr (mulC m)) (hr : roundH Pr ⟨tabC [mulC m], lpC [], noMg⟩ 100 10 f 4 powH [] [5] [] = powT) : HeadOk Pr f 4 powH (fun ρ => 0 ≤ ρ.e 1 ∧ ρ.e 1 ≤ 1073741789 ∧ 0 ≤ ρ.e 2 ∧ ρ.e 2 < 2147483579) powRes := by
  refine HeadOk.of hm (cfOk_mk (all_cons hmul all_nil) all_nil) hr _ (fun ρ => (ρ.e 1).toNat) powRes (fun ρ _ x hx => by cases hx) fun ρ r hI hp => ?_
  cases hp
  obtain ⟨h1, h2, h3, h4⟩ := hI
  obtain ⟨x, hx⟩ : ∃ x : Nat, ρ.e 1 = x := ⟨(ρ.e 1).toNat, by omega⟩
  have hxl : x < 4611686018427387904 := by omega
  have step : ∀ (k : Nat) (b : Int) (n : Int), x ≠ 0 → x < 2 ^ (k + 1) → powL (k + 1) b x n = powL (k + 1) (mulM b b) (x / 2) (bif Nat.beq (x % 2) 1 then mulM n b else n) := by
    intro k b n hx0 hxk
    have e0 : Nat.beq x 0 = false := by cases x with | zero => exact absurd rfl hx0 | succ _ => rfl
    rw [powL_more k (mulM b b) (x / 2) _ (by omega)]
    conv => lhs; unfold powL
    rw [e0]; rfl
  simp only [powT, T.pick, B.den, E.den, hx]
  cases hpos : ltb 0 (x : Int) with
  | false =>
    have hx0 : x = 0 := by have := ltb_no hpos; omega
    refine ⟨_, rfl, fun b hb => (by cases hb), LRes.mk_imp ⟨rfl, V.imp.int ?_, trivial⟩ trivial, by simp⟩
    rw [powE3_den ρ _ _ (.var 2) h3 h4]
    show ρ.e 2 = powL 62 (ρ.e 0) (ρ.e 1).toNat (ρ.e 2)
    rw [hx, hx0]; rfl
  | true =>
    have hx0 : x ≠ 0 := by have := ltb_ok hpos; omega
    have hdiv : (ρ.e 1).toNat = x := by omega
    rw [cond_true, and1 x hxl]
    by_cases hodd : x % 2 = 1
    · rw [hodd]
      refine ⟨_, rfl, fun b hb => (by cases hb), fun hs => ?_⟩
      have e1 : (ρ.sub ⟨[mulR (.var 0) (.var 0), .bin .shr .i64 (.var 1) (.lit 1), mulR (.var 2) (.var 0)], [], [], [], .ix⟩).e 1 = ((x / 2 : Nat) : Int) := by
        show binI .shr .i64 (ρ.e 1) 1 = _; rw [hx, shr1]
      have e2 : (ρ.sub ⟨[mulR (.var 0) (.var 0), .bin .shr .i64 (.var 1) (.lit 1), mulR (.var 2) (.var 0)], [], [], [], .ix⟩).e 2 = mulM (ρ.e 2) (ρ.e 0) := mulR_den ρ _ _
      have e0 : (ρ.sub ⟨[mulR (.var 0) (.var 0), .bin .shr .i64 (.var 1) (.lit 1), mulR (.var 2) (.var 0)], [], [], [], .ix⟩).e 0 = mulM (ρ.e 0) (ρ.e 0) := mulR_den ρ _ _
      have hmr := mulM_rg (ρ.e 2) (ρ.e 0)
      refine ⟨by rw [e1, e2]; exact ⟨by omega, by omega, hmr.1, hmr.2⟩, by rw [e1]; omega, _, rfl, LRes.mk_imp ⟨rfl, V.imp.int ?_, trivial⟩ trivial⟩
      rw [E.sub_den hs, powE3_den _ _ _ _ (by show 0 ≤ Env.e _ 2; rw [e2]; exact hmr.1) (by show Env.e _ 2 < _; rw [e2]; exact hmr.2), powE3_den ρ _ _ (.var 2) h3 h4]
      show powL 62 (Env.e _ 0) (Env.e _ 1).toNat (Env.e _ 2) = powL 62 (ρ.e 0) (ρ.e 1).toNat (ρ.e 2)
      rw [e0, e1, e2, hdiv, Int.toNat_natCast, step 61 _ _ hx0 (by omega), hodd]; rfl
    · have hev : x % 2 = 0 := by omega
      rw [hev]
      refine ⟨_, rfl, fun b hb => (by cases hb), fun hs => ?_⟩
      have e1 : (ρ.sub ⟨[mulR (.var 0) (.var 0), .bin .shr .i64 (.var 1) (.lit 1), .var 2], [], [], [], .ix⟩).e 1 = ((x / 2 : Nat) : Int) := by
        show binI .shr .i64 (ρ.e 1) 1 = _; rw [hx, shr1]
      have e2 : (ρ.sub ⟨[mulR (.var 0) (.var 0), .bin .shr .i64 (.var 1) (.lit 1), .var 2], [], [], [], .ix⟩).e 2 = ρ.e 2 := rfl
      have e0 : (ρ.sub ⟨[mulR (.var 0) (.var 0), .bin .shr .i64 (.var 1) (.lit 1), .var 2], [], [], [], .ix⟩).e 0 = mulM (ρ.e 0) (ρ.e 0) := mulR_den ρ _ _
      refine ⟨by rw [e1, e2]; exact ⟨by omega, by omega, h3, h4⟩, by rw [e1]; omega, _, rfl, LRes.mk_imp ⟨rfl, V.imp.int ?_, trivial⟩ trivial⟩
      rw [E.sub_den hs, powE3_den _ _ _ _ (by show 0 ≤ Env.e _ 2; rw [e2]; exact h3) (by show Env.e _ 2 < _; rw [e2]; exact h4), powE3_den ρ _ _ (.var 2) h3 h4]
      show powL 62 (Env.e _ 0) (Env.e _ 1).toNat (Env.e _ 2) = powL 62 (ρ.e 0) (ρ.e 1).toNat (ρ.e 2)
      rw [e0, e1, e2, hdiv, Int.toNat_natCast, step 61 _ _ hx0 (by omega), hev]; rfl
def powDs : List Nat := [1, 20, 19, 0, 29, 28, 27, 5, 26, 25, 24, 23, 22, 21, 18, 17]
def powLC (f : FuncId) : LCon := ⟨f, 4, powDs, powH.at [], 0, powH.obs [], powRes⟩
theorem powLC_of {f m : FuncId} (hmul : ConOk Pr (mulC m)) (hr : roundH Pr ⟨tabC [mulC m], lpC [], noMg⟩ 100 10 f 4 powH [] [5] [] = powT) (hds : dsOk Pr f 4 powDs = true) : LConOk Pr (powLC f) :=
  LConOk.of (powH_ok hmul hr) [] hds rfl rfl fun ρ r hp hok => by
    cases hp
    have g1 := hok _ (List.mem_cons_self ..)
    have g2 := hok _ (List.mem_cons_of_mem _ (List.mem_cons_self ..))
    have g3 := hok _ (List.mem_cons_of_mem _ (List.mem_cons_of_mem _ (List.mem_cons_self ..)))
    have g4 := hok _ (List.mem_cons_of_mem _ (List.mem_cons_of_mem _ (List.mem_cons_of_mem _ (List.mem_cons_self ..))))
    simp only [B.den, E.den, Bool.not_eq_true'] at g1 g2 g3 g4
    exact ⟨ltb_no g1, ltb_no g2, ltb_no g3, ltb_ok g4⟩
theorem powL1_ok : LConOk Pr (powLC 131) := powLC_of mul1_ok (by kernel_rfl) (by kernel_rfl)
theorem powL2_ok : LConOk Pr (powLC 90) := powLC_of mul2_ok (by kernel_rfl) (by kernel_rfl)
/-- a power. -/
def powE (a b : E) : E := .get (.app 2 (.cons a (.cons b .nil)) .nil) (.lit 0)
def powC (f : FuncId) : Con := ⟨f, [ival 0, ival 1], .leaf (.int .i64 (powE (.var 0) (.var 1)), [])⟩
def powFT : T (V × List B) := .br (.lt (.var 0) (.lit 0)) (.leaf (.int .i64 (.lit 0), [])) (.br (.lt (.var 0) (.lit 2147483579)) (.br (.lt (.var 1) (.lit 0)) (.leaf (.int .i64 (.lit 0), [])) (.br (.lt (.lit 1073741789) (.var 1)) (.leaf (.int .i64 (.lit 0), [])) (.leaf (.int .i64 (powE3 (.var 0) (.var 1) (.lit 1)), [])))) (.leaf (.int .i64 (.lit 0), [])))
theorem powM_lo {a b : Int} (h : a < 0 ∨ b < 0) : powM a b = 0 := by
  unfold powM
  split
  · rename_i x y; simp at h; omega
  · rfl
theorem powM_hi {a b : Int} (h : 2147483579 ≤ a ∨ 1073741789 < b) : powM a b = 0 := by
  unfold powM
  split
  · rename_i x y
    have : (Nat.blt x 2147483579 && Nat.ble y 1073741789) = false := by
      rw [blt_eq, Bool.and_eq_false_iff]
      simp only [Int.ofNat_eq_natCast] at h
      rcases h with h | h
      · left; simp only [decide_eq_false_iff_not]; omega
      · right
        cases hc : Nat.ble y 1073741789 with
        | false => rfl
        | true => have := Nat.le_of_ble_eq_true hc; omega
    rw [this]; rfl
  · rfl
theorem powM_in {a b : Int} (h1 : 0 ≤ a) (h2 : a < 2147483579) (h3 : 0 ≤ b) (h4 : b ≤ 1073741789) : powM a b = powL 62 a b.toNat 1 := by
  obtain ⟨x, rfl⟩ : ∃ x : Nat, a = x := ⟨a.toNat, by omega⟩
  obtain ⟨y, rfl⟩ : ∃ y : Nat, b = y := ⟨b.toNat, by omega⟩
  have e1 : (Nat.blt x 2147483579 && Nat.ble y 1073741789) = true := by
    rw [blt_eq, Nat.ble_eq_true_of_le (by omega : y ≤ 1073741789)]; simp; omega
  show (bif Nat.blt x 2147483579 && Nat.ble y 1073741789 then powL 62 (Int.ofNat x) y 1 else 0) = _
  rw [e1]; rfl
theorem powM_rg (a b : Int) : 0 ≤ powM a b ∧ powM a b < 2147483579 := by
  unfold powM
  split
  · rename_i x y
    cases Nat.blt x 2147483579 && Nat.ble y 1073741789 with
    | true => rw [cond_true]; exact powL_rg 62 _ _ 1 (by omega) (by omega)
    | false => rw [cond_false]; omega
  · omega
theorem powE_den (ρ : Env) (a b : E) : (powE a b).den ρ = powM (a.den ρ) (b.den ρ) := by
  show IntKind.i64.wrap (powM (a.den ρ) (b.den ρ)) = _
  exact wrap_lt (powM_rg _ _).1 (powM_rg _ _).2
theorem powC_of {f m : FuncId} (hmul : ConOk Pr (mulC m)) (hl : LConOk Pr (powLC f)) (h : shutT (exec Pr ⟨tabC [mulC m], lpC [powLC f], noMg⟩ 100 10 f [ival 0, ival 1]) = powFT) : ConOk Pr (powC f) := by
  refine Con.alt (Con.ofExec hm (cfOk_mk (all_cons hmul all_nil) (all_cons hl all_nil)) rfl h) fun ρ r' bs' hp hb => ?_
  cases hp
  have key : ∀ e : E, e.den ρ = powM (ρ.e 0) (ρ.e 1) → V.imp ρ (.int .i64 e) (.int .i64 (powE (.var 0) (.var 1))) := fun e he => V.imp.int (by rw [he, powE_den]; rfl)
  simp only [powFT, T.pick, B.den, E.den]
  cases h1 : ltb (ρ.e 0) 0 with
  | true => exact ⟨_, _, rfl, hb, key _ (by rw [powM_lo (.inl (ltb_ok h1))]; rfl)⟩
  | false =>
    cases h2 : ltb (ρ.e 0) 2147483579 with
    | false => exact ⟨_, _, rfl, hb, key _ (by rw [powM_hi (.inl (ltb_no h2))]; rfl)⟩
    | true =>
      cases h3 : ltb (ρ.e 1) 0 with
      | true => exact ⟨_, _, rfl, hb, key _ (by rw [powM_lo (.inr (ltb_ok h3))]; rfl)⟩
      | false =>
        cases h4 : ltb 1073741789 (ρ.e 1) with
        | true => exact ⟨_, _, rfl, hb, key _ (by rw [powM_hi (.inr (ltb_ok h4))]; rfl)⟩
        | false => exact ⟨_, _, rfl, hb, key _ (by rw [powM_in (ltb_no h1) (ltb_ok h2) (ltb_no h3) (ltb_no h4), powE3_den ρ _ _ (.lit 1) (by show (0:Int) ≤ 1; decide) (by show (1:Int) < 2147483579; decide)]; rfl)⟩
/-- is it a public key? -/
def isB (a : E) : B := .eq (.get (.app 4 (.cons a .nil) .nil) (.lit 0)) (.lit 1)
def isC (f : FuncId) : Con := ⟨f, [ival 0], .leaf (.bool (isB (.var 0)), [])⟩
def isT_ : T (V × List B) := .br (.lt (.lit 1) (.var 0)) (.br (.lt (.var 0) (.lit 2147483579)) (.leaf (.bool (.eq (powE (.var 0) (.lit 1073741789)) (.lit 1)), [])) (.leaf (.bool (.lit false), []))) (.leaf (.bool (.lit false), []))
theorem isM_eq (y : Int) : isM y = b2i (ltb 1 y && ltb y 2147483579 && eqb (powM y 1073741789) 1) := by
  cases y with
  | negSucc n => rfl
  | ofNat n =>
    simp only [isM]
    generalize powM (Int.ofNat n) 1073741789 = z
    cases z <;> rfl
theorem isB_den (ρ : Env) (a : E) : (isB a).den ρ = eqb (isM (a.den ρ)) 1 := by
  show eqb (IntKind.i64.wrap (isM (a.den ρ))) 1 = _
  congr 1
  rw [isM_eq]
  cases (ltb 1 (a.den ρ) && ltb (a.den ρ) 2147483579 && eqb (powM (a.den ρ) 1073741789) 1) <;> rfl
theorem isC_of {f p : FuncId} (hp : ConOk Pr (powC p)) (h : shutT (exec Pr ⟨tabC [powC p], lpC [], noMg⟩ 100 10 f [ival 0]) = isT_) : ConOk Pr (isC f) := by
  refine Con.alt (Con.ofExec hm (cfOk_mk (all_cons hp all_nil) all_nil) rfl h) fun ρ r' bs' hp hb => ?_
  cases hp
  have key : ∀ b : B, b.den ρ = (ltb 1 (ρ.e 0) && ltb (ρ.e 0) 2147483579 && eqb (powM (ρ.e 0) 1073741789) 1) → V.imp ρ (.bool b) (.bool (isB (.var 0))) := fun b he => V.imp.bool (by
    rw [he, isB_den]
    show _ = eqb (isM (ρ.e 0)) 1
    rw [isM_eq]
    cases (ltb 1 (ρ.e 0) && ltb (ρ.e 0) 2147483579 && eqb (powM (ρ.e 0) 1073741789) 1) <;> rfl)
  simp only [isT_, T.pick, B.den, E.den]
  cases h1 : ltb 1 (ρ.e 0) with
  | false => exact ⟨_, _, rfl, hb, key _ (by rw [h1]; rfl)⟩
  | true =>
    cases h2 : ltb (ρ.e 0) 2147483579 with
    | false => exact ⟨_, _, rfl, hb, key _ (by rw [h1, h2]; rfl)⟩
    | true => exact ⟨_, _, rfl, hb, key _ (by rw [h1, h2, B.den, powE_den]; rfl)⟩
theorem powC1_ok : ConOk Pr (powC 131) := powC_of mul1_ok powL1_ok (by kernel_rfl)
theorem powC2_ok : ConOk Pr (powC 90) := powC_of mul2_ok powL2_ok (by kernel_rfl)
theorem isC1_ok : ConOk Pr (isC 161) := isC_of powC1_ok (by kernel_rfl)
theorem isC2_ok : ConOk Pr (isC 36) := isC_of powC2_ok (by kernel_rfl)
end Go.Proofs.Ytlghaoohfklpnaa.E
/- Numbers as bytes: contracts. -/
namespace Go.Proofs.Ytlghaoohfklpnaa.E
open Go Go.RowKit
set_option maxRecDepth 100000
set_option linter.unusedVariables false
/-- a number as bytes. -/
def numL (a : E) : L := .app 10 (.cons a .nil) .nil
def numC (f : FuncId) : Con := ⟨f, [ival 0], .leaf (.fs 1 (.ints .u8 (numL (.var 0))), [])⟩
def numX : L := .cons (.conv .u8 (.bin .shr .i64 (.var 0) (.lit 56))) (.cons (.conv .u8 (.bin .shr .i64 (.var 0) (.lit 48))) (.cons (.conv .u8 (.bin .shr .i64 (.var 0) (.lit 40))) (.cons (.conv .u8 (.bin .shr .i64 (.var 0) (.lit 32))) (.cons (.conv .u8 (.bin .shr .i64 (.var 0) (.lit 24))) (.cons (.conv .u8 (.bin .shr .i64 (.var 0) (.lit 16))) (.cons (.conv .u8 (.bin .shr .i64 (.var 0) (.lit 8))) (.cons (.conv .u8 (.bin .shr .i64 (.var 0) (.lit 0))) .nil)))))))
theorem numC_of {f : FuncId} (h : shutT (exec Pr cf0 100 10 f [ival 0]) = .leaf (.fs 1 (.ints .u8 numX), [])) : ConOk Pr (numC f) :=
  Con.alt (Con.ofExec hm cf0_ok rfl h) fun ρ r' bs' hp hb => by cases hp; exact ⟨_, _, rfl, hb, V.imp.fsInts rfl⟩
theorem num1_ok : ConOk Pr (numC 101) := numC_of (by kernel_rfl)
theorem num2_ok : ConOk Pr (numC 30) := numC_of (by kernel_rfl)
theorem numL_den (ρ : Env) (a : E) : (numL a).den ρ = numB (a.den ρ) := rfl
theorem numB_len (n : Int) : (numB n).length = 8 := rfl
theorem wrap_wrap (k : IntKind) (x : Int) : k.wrap (k.wrap x) = k.wrap x := wrap_id k _ (wrap_rg k x).1 (wrap_rg k x).2
theorem numB_wrap (n : Int) : (numB n).map IntKind.u8.wrap = numB n := by
  unfold numB; rw [List.map_map]; exact List.map_congr_left fun x _ => wrap_wrap .u8 x
theorem numsM_wrap (l : List Int) : (numsM l).map IntKind.u8.wrap = numsM l := by
  unfold numsM
  induction l with
  | nil => rfl
  | cons a l ih => rw [List.flatMap_cons, List.map_append, numB_wrap, ih]
theorem opsM_wrap (l : List (List Int)) : (opsM l).map IntKind.u8.wrap = opsM l := by
  unfold opsM
  induction l with
  | nil => rfl
  | cons a l ih => rw [List.flatMap_cons, List.map_append, numsM_wrap, ih]
def numsL (a : L) : L := .app 15 a .nil
theorem numsL_den (ρ : Env) (a : L) : (numsL a).den ρ = numsM (a.den ρ) := by
  show (numsM (a.den ρ)).map IntKind.u8.wrap = _
  exact numsM_wrap _
def numsC (f : FuncId) : Con := ⟨f, [.fs 1 (.ints .i64 (.var 0))], .leaf (.fs 1 (.ints .u8 (numsL (.var 0))), [.lt (.len (.var 0)) (.lit 67108864)])⟩
/-- a row's numbers, one after the other, behind what there is. -/
def numsOks : List B := [.lt (.len (.cat (.var 1) (numL (.get (.var 0) (.var 0))))) (.lit 1073741824), .and (.not (.lt (.var 0) (.lit 0))) (.lt (.var 0) (.len (.var 0))), .and (.not (.lt (.var 0) (.lit 0))) (.lt (.var 0) (.len (.var 0)))]
def numsS : Sub := ⟨[.bin .add .i64 (.var 0) (.lit 1)], [.var 0, .cat (.var 1) (numL (.get (.var 0) (.var 0)))], [], [], .ix⟩
def numsT (slot x : Nat) (oks : List B) : T LEnd := .br (.lt (.var 0) (.len (.var 0))) (.leaf (.go numsS oks)) (.leaf (.out ⟨.exit x, rowFr slot 0 1 (.var 1), 1, rowOb 0 .u8 5 (.var 1), []⟩))
def numsI (ρ : Env) : Prop := 0 ≤ ρ.e 0 ∧ ρ.e 0 ≤ (ρ.l 0).length ∧ (ρ.l 0).length ≤ 67108864 ∧ (ρ.l 1).length + 8 * ((ρ.l 0).length - (ρ.e 0).toNat) ≤ 1073741000
def numsG : L := numsL (restL (.var 0) (.var 0))
def numsOkr : List B := [.eq (.var 0) (.lit 0), .eq (.len (.var 1)) (.lit 0), .lt (.len (.var 0)) (.lit 67108864)]
theorem numsHead {cf : Cf} (hcf : CfOk Pr cf) {f id slot x : Nat} {H : LHead} {oks : List B} (ho : ∀ b ∈ oks, b ∈ numsOks) (hr : roundH Pr cf 100 10 f id H [] [slot] [0] = numsT slot x oks) : HeadOk Pr f id H numsI (.leaf ⟨.exit x, rowFr slot 0 1 (.cat (.var 1) numsG), 1, rowOb 0 .u8 5 (.cat (.var 1) numsG), numsOkr⟩) := by
  refine HeadOk.flat hm hcf hr numsI numsG _ (fun ρ hI => ⟨hI.1, hI.2.1⟩) (fun ρ hI hlt => ?_) (fun ρ hI he => ?_)
  · obtain ⟨h1, h2, h3, h4⟩ := hI
    simp only [lenN, L.den] at hlt
    have e1 : (ρ.sub numsS).e 0 = ρ.e 0 + 1 := add1 h1 hlt (by omega)
    have e2 : (ρ.sub numsS).l 1 = ρ.l 1 ++ numB ((ρ.l 0).getD (ρ.e 0).toNat 0) := rfl
    have e3 : (ρ.sub numsS).l 0 = ρ.l 0 := rfl
    refine ⟨fun b hb => ?_, fun _ => ⟨⟨by rw [e1]; omega, by rw [e1, e3]; omega, by rw [e3]; exact h3, ?_⟩, e1, rfl, ?_⟩⟩
    · have := ho b hb
      simp only [numsOks, List.mem_cons, List.not_mem_nil, or_false] at this
      have q1 : (B.lt (.len (.cat (.var 1) (numL (.get (.var 0) (.var 0))))) (.lit 1073741824)).den ρ = true := by
        refine ltT ?_
        show (((ρ.l 1 ++ numB _).length : Nat) : Int) < 1073741824
        rw [List.length_append, numB_len]; omega
      have q2 : (B.and (.not (.lt (.var 0) (.lit 0))) (.lt (.var 0) (.len (.var 0)))).den ρ = true := by
        show (!ltb (ρ.e 0) 0 && ltb (ρ.e 0) ((ρ.l 0).length : Nat)) = true
        rw [ltF h1, ltT hlt]; rfl
      rcases this with rfl | rfl | rfl
      · exact q1
      · exact q2
      · exact q2
    · rw [e1, e2, e3, List.length_append, numB_len]; omega
    · rw [e2]
      unfold numsG
      rw [numsL_den, numsL_den, restL_den, restL_den]
      show (ρ.l 1 ++ numB _) ++ numsM ((ρ.l 0).drop ((ρ.sub numsS).e 0).toNat) = ρ.l 1 ++ numsM ((ρ.l 0).drop (ρ.e 0).toNat)
      rw [e1, drop_at (d := 0) h1 hlt]
      simp only [numsM, List.flatMap_cons, List.append_assoc]
  · unfold numsG
    rw [numsL_den, restL_den]
    show numsM ((ρ.l 0).drop (ρ.e 0).toNat) = []
    have : (ρ.e 0).toNat = (ρ.l 0).length := by
      have : ρ.e 0 = ((ρ.l 0).length : Nat) := he
      omega
    rw [this, List.drop_length]; rfl
/-- none yet. -/
def nums0 : Sub := ⟨[.lit 0], [.var 0, .nil], [], [], .ix⟩
theorem numsI0 (ρ : Env) (r : LRes) {x slot : Nat} (hp : (T.sub nums0 (.leaf ⟨.exit x, rowFr slot 0 1 (.cat (.var 1) numsG), 1, rowOb 0 .u8 5 (.cat (.var 1) numsG), numsOkr⟩)).pick ρ = some r) (hok : okOk ρ r.ok) : numsI (ρ.sub nums0) := by
  cases hp
  have := hok _ (List.mem_cons_of_mem _ (List.mem_cons_of_mem _ (List.mem_cons_self ..)))
  rw [B.sub_den (Sub.noix_ok rfl)] at this
  have : ((ρ.l 0).length : Int) < 67108864 := ltb_ok this
  refine ⟨Int.le_refl _, ?_, ?_, ?_⟩
  · show (0 : Int) ≤ ((ρ.l 0).length : Nat); omega
  · show (ρ.l 0).length ≤ _; omega
  · show 0 + 8 * ((ρ.l 0).length - (0 : Int).toNat) ≤ _; simp; omega
def nums1H : LHead := ⟨[(3, .sl 0 0 (.lit 0) (.len (.var 1)) 1 true), (6, .fs 1 (.ints .i64 (.var 0))), (7, .int .i64 (.len (.var 0))), (8, ival 0)], 0, [1], [(0, ⟨.ints .u8 (.var 1), true, 5⟩)]⟩
def nums1Ds : List Nat := [8, 16, 3, 15, 14, 13, 12, 5, 11, 10, 9]
noncomputable def cfN1 : Cf := ⟨tabC [numC 101], lpC [], noMg⟩
theorem cfN1_ok : CfOk Pr cfN1 := cfOk_mk (all_cons num1_ok all_nil) all_nil
def numsRes (slot x : Nat) : T LRes := .leaf ⟨.exit x, rowFr slot 0 1 (.cat (.var 1) numsG), 1, rowOb 0 .u8 5 (.cat (.var 1) numsG), numsOkr⟩
theorem nums1L_ok : LConOk Pr ⟨51, 3, nums1Ds, nilFr nums1H nums0 1, 0, [], T.sub nums0 (numsRes 3 0)⟩ :=
  LConOk.nil (ob0 := []) (numsHead cfN1_ok (oks := numsOks) (fun b h => h) (by kernel_rfl)) nums0 1 rfl (by kernel_rfl) rfl rfl fun ρ r hp hok => numsI0 ρ r hp hok
theorem nums1_ok : ConOk Pr (numsC 51) :=
  Con.ofExec hm (cf := ⟨tabC [numC 101], lpC [⟨51, 3, nums1Ds, nilFr nums1H nums0 1, 0, [], T.sub nums0 (numsRes 3 0)⟩], noMg⟩) (cfOk_mk (all_cons num1_ok all_nil) (all_cons nums1L_ok all_nil)) (fuel := 100) (depth := 10) rfl (by kernel_rfl)
end Go.Proofs.Ytlghaoohfklpnaa.E
/- Operations as bytes: contracts. -/
namespace Go.Proofs.Ytlghaoohfklpnaa.E
open Go Go.RowKit
set_option maxRecDepth 100000
set_option linter.unusedVariables false
def opsL (a : LL) : L := .app 16 .nil a
theorem opsL_den (ρ : Env) (a : LL) : (opsL a).den ρ = opsM (a.den ρ) := by
  show (opsM (a.den ρ)).map IntKind.u8.wrap = _
  exact opsM_wrap _
def opsA (i : Nat) : V := .fs 5 (.recs 5 (.cnt (.var i)) (tI .i64 5 (.var i)))
def opsC (f : FuncId) : Con := ⟨f, [opsA 0], .leaf (.fs 1 (.ints .u8 (opsL (.var 0))), [.lt (.cnt (.var 0)) (.lit 4611686018427387904), .lt (.len (opsL (.var 0))) (.lit 1073741824)])⟩
noncomputable def cfK : Cf := ⟨tabC [numC 101, numC 30], lpC [], noMg⟩
theorem cfK_ok : CfOk Pr cfK := cfOk_mk (all_cons num1_ok (all_cons num2_ok all_nil)) all_nil
def oprN (k : Nat) : L := numL (.get (.at (.var 0) (.var 0)) (.lit (.ofNat k)))
def oprX : L := .cat (oprN 0) (.cat (oprN 1) (.cat (oprN 2) (.cat (oprN 3) (oprN 4))))
def opsG : L := opsL (restLL (.var 0) (.var 0))
def opsS : Sub := ⟨[.bin .add .i64 (.var 0) (.lit 1)], [.nil, .cat (.var 1) oprX], [.var 0], [], .ix⟩
theorem oprX_den (ρ : Env) : oprX.den ρ = numsM ((List.range 5).map fun i => ((ρ.ll 0).getD (ρ.e 0).toNat []).getD i 0) := by
  simp [numsM, List.range_succ, List.flatMap_cons, oprN, numL_den, oprX, L.den, E.den, LL.den]
theorem numsM_len (l : List Int) : (numsM l).length = 8 * l.length := by
  unfold numsM
  induction l with
  | nil => rfl
  | cons a l ih => rw [List.flatMap_cons, List.length_append, ih, numB_len, List.length_cons]; omega
theorem opsM_len (l : List (List Int)) : (opsM l).length = 40 * l.length := by
  unfold opsM
  induction l with
  | nil => rfl
  | cons a l ih => rw [List.flatMap_cons, List.length_append, ih, numsM_len, List.length_map, List.length_range, List.length_cons]; omega
theorem opsG_step (ρ : Env) (h0 : 0 ≤ ρ.e 0) (h : ρ.e 0 < ((ρ.ll 0).length : Nat)) (e1 : (ρ.sub opsS).e 0 = ρ.e 0 + 1) : opsG.den ρ = oprX.den ρ ++ opsG.den (ρ.sub opsS) := by
  unfold opsG
  rw [opsL_den, opsL_den, restLL_den, restLL_den, oprX_den]
  show opsM ((ρ.ll 0).drop (ρ.e 0).toNat) = _ ++ opsM ((ρ.ll 0).drop ((ρ.sub opsS).e 0).toNat)
  rw [e1, drop_at (d := []) h0 h]
  simp only [opsM, List.flatMap_cons]
def opsIx : B := .and (.not (.lt (.var 0) (.lit 0))) (.lt (.var 0) (.cnt (.var 0)))
def opsOks : List B := opsIx :: [oprN 0, .cat (oprN 0) (oprN 1), .cat (oprN 0) (.cat (oprN 1) (oprN 2)), .cat (oprN 0) (.cat (oprN 1) (.cat (oprN 2) (oprN 3))), oprX].map fun X => .lt (.len (.cat (.var 1) X)) (.lit 1073741824)
theorem ops_oks {ρ : Env} (h : appI 0 1 (.cnt (.var 0)) opsG ρ) (hlt : ρ.e 0 < ((ρ.ll 0).length : Nat)) (e1 : (ρ.sub opsS).e 0 = ρ.e 0 + 1) {oks : List B} (ho : ∀ b ∈ oks, b ∈ opsOks) : okOk ρ oks := by
  intro b hb
  have h4 := h.2.2.2
  rw [opsG_step ρ h.1 hlt e1, oprX_den] at h4
  simp only [List.length_append, numsM_len, List.length_map, List.length_range] at h4
  rcases List.mem_cons.1 (ho b hb) with rfl | hb
  · exact ok_ix h.1 hlt
  · obtain ⟨X, hX, rfl⟩ := List.mem_map.1 hb
    refine ok_len (m := 1073741824) ?_
    simp only [List.mem_cons, List.not_mem_nil, or_false] at hX
    rcases hX with rfl | rfl | rfl | rfl | rfl <;> simp only [L.den, List.length_append, oprX, oprN, numL_den, numB_len] <;> omega
def ops1H : LHead := ⟨[(3, .sl 0 0 (.lit 0) (.len (.var 1)) 1 true), (8, opsA 0), (9, .int .i64 (.cnt (.var 0))), (10, ival 0)], 0, [7], [(0, ⟨.ints .u8 (.var 1), true, 5⟩)]⟩
def ops2H : LHead := ⟨[(0, opsA 0), (3, .sl 0 0 (.lit 0) (.len (.var 1)) 1 true), (4, ival 0)], 0, [7], [(0, ⟨.ints .u8 (.var 1), true, 5⟩)]⟩
def opsT (oks : List B) : T LEnd := .br (.lt (.var 0) (.cnt (.var 0))) (.leaf (.go opsS oks)) (.leaf (.out ⟨.exit 0, rowFr 3 0 1 (.var 1), 1, rowOb 0 .u8 5 (.var 1), []⟩))
theorem opsHead {f : FuncId} {H : LHead} {oks : List B} (hr : roundH Pr cfK 100 10 f 3 H [] [3] [0] = opsT oks) (ho : amongB opsOks oks = true) : HeadOk Pr f 3 H (appI 0 1 (.cnt (.var 0)) opsG) (appRes 3 0 1 0 1 .u8 5 opsG (appOk 0 1 (.cnt (.var 0)) opsG)) :=
  HeadOk.app hm cfK_ok hr opsG (fun _ => rfl) (fun ρ h0 hlt e1 => ⟨rfl, _, rfl, opsG_step ρ h0 hlt e1⟩) (fun ρ hI hlt e1 => ops_oks hI hlt e1 (amongB_ok ho)) fun ρ he => by
    unfold opsG
    rw [opsL_den, restLL_den]
    have he : ρ.e 0 = ((ρ.ll 0).length : Nat) := he
    show opsM ((ρ.ll 0).drop (ρ.e 0).toNat) = []
    rw [he, Int.toNat_natCast, List.drop_length]; rfl
def ops0 : Sub := ⟨[.lit 0], [.nil, .nil], [.var 0], [], .ix⟩
def opsLR : T LRes := T.sub ops0 (appRes 3 0 1 0 1 .u8 5 opsG (appOk 0 1 (.cnt (.var 0)) opsG))
noncomputable def ops1Ds : List Nat := (theDs Pr 100 3)
noncomputable def ops2Ds : List Nat := (theDs Pr 139 3)
theorem ops1L_ok : LConOk Pr ⟨100, 3, ops1Ds, nilFr ops1H ops0 1, 0, [], opsLR⟩ :=
  LConOk.nil (ob0 := []) (opsHead (oks := oksOf (roundH Pr cfK 100 10 100 3 ops1H [] [3] [0])) (by kernel_rfl) (by kernel_rfl)) ops0 1 rfl (by kernel_rfl) rfl rfl fun ρ r hp hok => appI_nil rfl ρ r hp hok
theorem ops2L_ok : LConOk Pr ⟨139, 3, ops2Ds, nilFr ops2H ops0 1, 0, [], opsLR⟩ :=
  LConOk.nil (ob0 := []) (opsHead (oks := oksOf (roundH Pr cfK 100 10 139 3 ops2H [] [3] [0])) (by kernel_rfl) (by kernel_rfl)) ops0 1 rfl (by kernel_rfl) rfl rfl fun ρ r hp hok => appI_nil rfl ρ r hp hok
theorem opsC_of {f : FuncId} {cf : Cf} (hcf : CfOk Pr cf) (h : shutT (exec Pr cf 100 10 f [opsA 0]) = .leaf (.fs 1 (.ints .u8 (.app 16 .nil (.var 0))), [.lt (.cnt (.var 0)) (.lit 4611686018427387904), .lt (.len (.app 16 .nil (.var 0))) (.lit 1073741824)])) : ConOk Pr (opsC f) := Con.ofExec hm hcf rfl h
noncomputable def cfO : Cf := ⟨tabC [numC 101, numC 30], lpC [⟨100, 3, ops1Ds, nilFr ops1H ops0 1, 0, [], opsLR⟩, ⟨139, 3, ops2Ds, nilFr ops2H ops0 1, 0, [], opsLR⟩], noMg⟩
theorem cfO_ok : CfOk Pr cfO := cfOk_mk (all_cons num1_ok (all_cons num2_ok all_nil)) (all_cons ops1L_ok (all_cons ops2L_ok all_nil))
theorem ops1_ok : ConOk Pr (opsC 100) := opsC_of cfO_ok (by kernel_rfl)
theorem ops2_ok : ConOk Pr (opsC 139) := opsC_of cfO_ok (by kernel_rfl)
end Go.Proofs.Ytlghaoohfklpnaa.E
/- Rows one after the other: contracts. -/
namespace Go.Proofs.Ytlghaoohfklpnaa.E
open Go Go.RowKit
set_option maxRecDepth 100000
set_option linter.unusedVariables false
def llA (i : Nat) : V := .fs 1 (.recs 1 (.cnt (.var i)) (tB .u8 (.var i)))
/-! how many bytes -/
def cat1H : LHead := ⟨[(3, ival 1), (9, llA 0), (10, .int .i64 (.cnt (.var 0))), (11, ival 0)], 0, [], []⟩
def cat1S : Sub := ⟨[.bin .add .i64 (.var 0) (.lit 1), .bin .add .i64 (.var 1) (.len (.at (.var 0) (.var 0)))], [], [.var 0], [], .ix⟩
def cat1I (ρ : Env) : Prop := 0 ≤ ρ.e 0 ∧ ρ.e 0 ≤ ((ρ.ll 0).length : Nat) ∧ (ρ.ll 0).length < 4611686018427387904 ∧ 0 ≤ ρ.e 1 ∧ ρ.e 1 + (((ρ.ll 0).drop (ρ.e 0).toNat).flatten.length : Nat) < 4611686018427387904
def cat1E : E := .bin .add .i64 (.var 1) (.len (.join (restLL (.var 0) (.var 0))))
def cat1R (okr : List B) : T LRes := .leaf ⟨.exit 0, [(3, .int .i64 cat1E)], 0, [], okr⟩
theorem cat1_den (ρ : Env) : cat1E.den ρ = IntKind.i64.wrap (ρ.e 1 + (((ρ.ll 0).drop (ρ.e 0).toNat).flatten.length : Nat)) := by
  show IntKind.i64.wrap (ρ.e 1 + (((restLL (.var 0) (.var 0)).den ρ).flatten.length : Nat)) = _
  rw [restLL_den]; rfl
theorem ll_step {l : List (List Int)} {i : Int} (h0 : 0 ≤ i) (h : i < (l.length : Nat)) : (l.drop i.toNat).flatten = l.getD i.toNat [] ++ (l.drop (i + 1).toNat).flatten := by
  rw [drop_at (d := []) h0 h, List.flatten_cons]
theorem cat1Head {okr : List B} (hr : roundH Pr cf0 100 10 49 3 cat1H [] [3] [] = .br (.lt (.var 0) (.cnt (.var 0))) (.br (.lt (.bin .add .i64 (.var 1) (.len (.at (.var 0) (.var 0)))) (.lit 0)) .dead (.leaf (.go cat1S [opsIx, opsIx]))) (.leaf (.out ⟨.exit 0, [(3, ival 1)], 0, [], []⟩))) : HeadOk Pr 49 3 cat1H cat1I (cat1R okr) := by
  refine HeadOk.of hm cf0_ok hr cat1I (fun ρ => (((ρ.ll 0).length : Nat) - ρ.e 0).toNat) _ (fun ρ _ x hx => by cases hx) fun ρ r hI hp => ?_
  cases hp
  obtain ⟨h1, h2, h3, h4, h5⟩ := hI
  simp only [T.pick]
  have hb : (B.lt (.var 0) (.cnt (.var 0))).den ρ = ltb (ρ.e 0) ((ρ.ll 0).length : Nat) := rfl
  rw [hb]
  cases hc : ltb (ρ.e 0) ((ρ.ll 0).length : Nat) with
  | true =>
    have hlt : ρ.e 0 < ((ρ.ll 0).length : Nat) := ltb_ok hc
    have hst := ll_step (l := ρ.ll 0) h1 hlt
    have hl := congrArg List.length hst
    rw [List.length_append] at hl
    have e0 : (ρ.sub cat1S).e 0 = ρ.e 0 + 1 := add1 h1 hlt (by omega)
    have e1 : (ρ.sub cat1S).e 1 = ρ.e 1 + (((ρ.ll 0).getD (ρ.e 0).toNat []).length : Nat) := by
      refine wrap_id .i64 _ ?_ ?_
      · show (-9223372036854775808 : Int) ≤ ρ.e 1 + (((ρ.ll 0).getD (ρ.e 0).toNat []).length : Nat); omega
      · show ρ.e 1 + (((ρ.ll 0).getD (ρ.e 0).toNat []).length : Nat) ≤ (9223372036854775807 : Int); omega
    have e1' : (E.bin .add .i64 (.var 1) (.len (.at (.var 0) (.var 0)))).den ρ = ρ.e 1 + (((ρ.ll 0).getD (ρ.e 0).toNat []).length : Nat) := e1
    have hb2 : (B.lt (.bin .add .i64 (.var 1) (.len (.at (.var 0) (.var 0)))) (.lit 0)).den ρ = false := by
      show ltb ((E.bin .add .i64 (.var 1) (.len (.at (.var 0) (.var 0)))).den ρ) 0 = false
      rw [e1']; exact ltF (by omega)
    rw [hb2]
    refine ⟨_, rfl, ?_, fun hs => ?_⟩
    · intro b hb
      simp only [List.mem_cons, List.not_mem_nil, or_false, or_self] at hb
      subst hb; exact ok_ix h1 hlt
    · have ell : (ρ.sub cat1S).ll 0 = ρ.ll 0 := rfl
      refine ⟨⟨by rw [e0]; omega, by rw [e0, ell]; omega, by rw [ell]; exact h3, by rw [e1]; omega, by rw [e0, e1, ell]; omega⟩, by rw [e0, ell]; omega, _, rfl, ?_⟩
      refine LRes.mk_imp (fr := [(3, .int .i64 (cat1E.sub cat1S))]) (fr' := [(3, .int .i64 cat1E)]) ⟨rfl, V.imp.int ?_, trivial⟩ trivial
      rw [E.sub_den hs, cat1_den, cat1_den, e0, e1, ell]
      congr 1; omega
  | false =>
    have hge : ((ρ.ll 0).length : Nat) ≤ ρ.e 0 := ltb_no hc
    refine ⟨_, rfl, ?_⟩
    refine ⟨fun b hb => (by cases hb), LRes.mk_imp (fr := [(3, ival 1)]) (fr' := [(3, .int .i64 cat1E)]) (ob := []) (ob' := []) ⟨rfl, V.imp.int ?_, trivial⟩ trivial, by simp⟩
    have : (ρ.e 0).toNat = (ρ.ll 0).length := by omega
    rw [cat1_den, this, List.drop_length]
    show ρ.e 1 = _
    rw [show ρ.e 1 + (((([] : List (List Int)).flatten).length : Nat) : Int) = ρ.e 1 by simp]
    exact (wrap_id .i64 _ (by show (-9223372036854775808 : Int) ≤ _; omega) (by show _ ≤ (9223372036854775807 : Int); omega)).symm
def cat10 : Sub := ⟨[.lit 0, .lit 0], [], [.var 0], [], .ix⟩
noncomputable def cat1Ds : List Nat := theDs Pr 49 3
def catOk : List B := [.lt (.cnt (.var 0)) (.lit 4611686018427387904), .lt (.len (.join (.var 0))) (.lit 1073741824)]
theorem catOk_of {ρ : Env} (h : okOk ρ catOk) : (ρ.ll 0).length < 4611686018427387904 ∧ (ρ.ll 0).flatten.length < 1073741824 := by
  have h1 := h _ (List.mem_cons_self ..)
  have h2 := h _ (List.mem_cons_of_mem _ (List.mem_cons_self ..))
  simp only [B.den, E.den, L.den, LL.den, ltb_eq, decide_eq_true_eq] at h1 h2
  exact ⟨by omega, by omega⟩
theorem cat1L_ok : LConOk Pr ⟨49, 3, cat1Ds, [(3, .int .i64 (.lit 0)), (9, llA 0), (10, .int .i64 (.cnt (.var 0))), (11, .int .i64 (.lit 0))], 0, [], .leaf ⟨.exit 0, [(3, .int .i64 (.len (.join (.var 0))))], 0, [], catOk⟩⟩ := by
  have h := LConOk.ofS (cat1Head (okr := catOk) (by kernel_rfl)) [] cat10 rfl (ds := cat1Ds) (by kernel_rfl) rfl rfl fun ρ r hp hok => by
    cases hp
    have hok : okOk ρ (catOk.map (·.sub cat10)) := hok
    rw [show catOk.map (·.sub cat10) = catOk by kernel_rfl] at hok
    obtain ⟨h1, h2⟩ := catOk_of (ρ := ρ) hok
    refine ⟨Int.le_refl _, ?_, h1, Int.le_refl _, ?_⟩
    · show (0 : Int) ≤ ((ρ.ll 0).length : Nat); omega
    · show (0 : Int) + (((ρ.ll 0).drop 0).flatten.length : Nat) < _
      rw [List.drop_zero]; omega
  have e : catOk.map (·.sub cat10) = catOk := by kernel_rfl
  refine LConOk.alt h rfl fun ρ r hp hok => ?_
  cases hp
  have hok : okOk ρ catOk := hok
  refine ⟨_, rfl, by rw [e]; exact hok, ?_⟩
  obtain ⟨h1, h2⟩ := catOk_of (ρ := ρ) hok
  refine LRes.mk_imp (fr := [(3, .int .i64 (cat1E.sub cat10))]) (fr' := [(3, .int .i64 (.len (.join (.var 0))))]) (ob := []) (ob' := []) ⟨rfl, V.imp.int ?_, trivial⟩ trivial
  rw [E.sub_den (Sub.noix_ok rfl), cat1_den]
  show IntKind.i64.wrap (0 + (((ρ.ll 0).drop 0).flatten.length : Nat)) = ((ρ.ll 0).flatten.length : Nat)
  rw [List.drop_zero, Int.zero_add]
  exact wrap_id .i64 _ (by show (-9223372036854775808 : Int) ≤ _; omega) (by show _ ≤ (9223372036854775807 : Int); omega)
/-! one behind the other -/
def catG : L := .join (restLL (.var 0) (.var 0))
theorem catG_den (ρ : Env) : catG.den ρ = ((ρ.ll 0).drop (ρ.e 0).toNat).flatten := by
  show ((restLL (.var 0) (.var 0)).den ρ).flatten = _
  rw [restLL_den]; rfl
def catS : Sub := ⟨[.bin .add .i64 (.var 0) (.lit 1)], [.cat (.var 0) (.at (.var 0) (.var 0))], [.var 0], [], .ix⟩
def catOks : List B := [.lt (.len (.cat (.var 0) (.at (.var 0) (.var 0)))) (.lit 1073741824), opsIx]
def catT (slot n0 n1 x : Nat) (oks : List B) : T LEnd := .br (.lt (.var 0) (.cnt (.var 0))) (.leaf (.go catS oks)) (.leaf (.out ⟨.exit x, rowFr slot n0 1 (.var 0), n1, rowOb n0 .u8 5 (.var 0), []⟩))
def catRes (slot n0 n1 x : Nat) : T LRes := appRes slot n0 n1 x 0 .u8 5 catG (appOk 0 0 (.cnt (.var 0)) catG)
theorem catHead {f id slot n0 n1 x : Nat} {H : LHead} {osl oob : List Nat} {oks : List B} (hr : roundH Pr cf0 100 10 f id H [] osl oob = catT slot n0 n1 x oks) (ho : amongB catOks oks = true) : HeadOk Pr f id H (appI 0 0 (.cnt (.var 0)) catG) (catRes slot n0 n1 x) := by
  have step : ∀ ρ : Env, 0 ≤ ρ.e 0 → ρ.e 0 < ((ρ.ll 0).length : Nat) → (ρ.sub catS).e 0 = ρ.e 0 + 1 → catG.den ρ = (ρ.ll 0).getD (ρ.e 0).toNat [] ++ catG.den (ρ.sub catS) := fun ρ h0 hlt e1 => by
    rw [catG_den, catG_den, ll_step h0 hlt, e1]; rfl
  refine HeadOk.app hm cf0_ok hr catG (fun _ => rfl) (fun ρ h0 hlt e1 => ⟨rfl, _, rfl, step ρ h0 hlt e1⟩) (fun ρ hI hlt e1 b hb => ?_) fun ρ he => ?_
  · have hb := amongB_ok ho b hb
    simp only [catOks, List.mem_cons, List.not_mem_nil, or_false] at hb
    rcases hb with rfl | rfl
    · refine ok_len (m := 1073741824) ?_
      have h4 := hI.2.2.2
      rw [step ρ hI.1 hlt e1, List.length_append] at h4
      show (ρ.l 0 ++ (ρ.ll 0).getD (ρ.e 0).toNat []).length < _
      rw [List.length_append]; omega
    · exact ok_ix hI.1 hlt
  · have he : ρ.e 0 = ((ρ.ll 0).length : Nat) := he
    rw [catG_den, he, Int.toNat_natCast, List.drop_length]; rfl
def cat2H (n : Nat) (pm : Nat) : LHead := ⟨[(6, .sl n 0 (.lit 0) (.len (.var 0)) 1 true), (25, llA 0), (26, .int .i64 (.cnt (.var 0))), (27, ival 0)], n, [pm], [(n, ⟨.ints .u8 (.var 0), true, 5⟩)]⟩
def joinH : LHead := ⟨[(0, llA 0), (3, .sl 0 0 (.lit 0) (.len (.var 0)) 1 true), (4, ival 0)], 0, [1], [(0, ⟨.ints .u8 (.var 0), true, 5⟩)]⟩
def cat0 : Sub := ⟨[.lit 0], [.nil], [.var 0], [], .ix⟩
noncomputable def cat2Ds : List Nat := theDs Pr 49 11
noncomputable def joinDs : List Nat := theDs Pr 86 3
theorem joinL_ok : LConOk Pr ⟨86, 3, joinDs, nilFr joinH cat0 1, 0, [], T.sub cat0 (catRes 3 0 1 0)⟩ :=
  LConOk.nil (ob0 := []) (catHead (osl := [3]) (oob := [0]) (oks := oksOf (roundH Pr cf0 100 10 86 3 joinH [] [3] [0])) (by kernel_rfl) (by kernel_rfl)) cat0 1 rfl (by kernel_rfl) rfl rfl fun ρ r hp hok => appI_nil rfl ρ r hp hok
theorem cat2L_ok : LConOk Pr ⟨49, 11, cat2Ds, nilFr (cat2H 0 1) cat0 1, 0, [], T.sub cat0 (catRes 6 0 1 2)⟩ :=
  LConOk.nil (ob0 := []) (catHead (osl := [6]) (oob := [0]) (oks := oksOf (roundH Pr cf0 100 10 49 11 (cat2H 0 1) [] [6] [0])) (by kernel_rfl) (by kernel_rfl)) cat0 1 rfl (by kernel_rfl) rfl rfl fun ρ r hp hok => appI_nil rfl ρ r hp hok
theorem cat3L_ok : LConOk Pr ⟨49, 11, cat2Ds, ((cat2H 1 2).at [0]).map fun p => (p.1, p.2.sub cat0), 1, ((cat2H 1 2).obs [0]).map fun p => (p.1, p.2.sub cat0), T.sub cat0 (catRes 6 1 2 2)⟩ :=
  LConOk.ofS (catHead (osl := [6]) (oob := [1]) (oks := oksOf (roundH Pr cf0 100 10 49 11 (cat2H 1 2) [] [6] [1])) (by kernel_rfl) (by kernel_rfl)) [0] cat0 rfl (by kernel_rfl) rfl rfl fun ρ r hp hok => appI_nil rfl ρ r hp hok
noncomputable def cfC : Cf := ⟨noTab, lpC [⟨86, 3, joinDs, nilFr joinH cat0 1, 0, [], T.sub cat0 (catRes 3 0 1 0)⟩, ⟨49, 3, cat1Ds, [(3, .int .i64 (.lit 0)), (9, llA 0), (10, .int .i64 (.cnt (.var 0))), (11, .int .i64 (.lit 0))], 0, [], .leaf ⟨.exit 0, [(3, .int .i64 (.len (.join (.var 0))))], 0, [], catOk⟩⟩,
  ⟨49, 11, cat2Ds, nilFr (cat2H 0 1) cat0 1, 0, [], T.sub cat0 (catRes 6 0 1 2)⟩, ⟨49, 11, cat2Ds, ((cat2H 1 2).at [0]).map fun p => (p.1, p.2.sub cat0), 1, ((cat2H 1 2).obs [0]).map fun p => (p.1, p.2.sub cat0), T.sub cat0 (catRes 6 1 2 2)⟩], noMg⟩
theorem cfC_ok : CfOk Pr cfC := ⟨fun ρ => noTab_ok Pr ρ, fun ρ => lpC_ok (all_cons joinL_ok (all_cons cat1L_ok (all_cons cat2L_ok (all_cons cat3L_ok all_nil))))⟩
def joinF : FRes := ⟨.sl 0 0 (.lit 0) (.len (.join (.var 0))) 1 true, 1, [(0, ⟨.ints .u8 (.join (.var 0)), true, 5⟩)], catOk⟩
def joinC (f : FuncId) : FCon := ⟨f, [llA 0], 0, [], .leaf joinF⟩
theorem join2_ok : FConOk Pr (joinC 86) := FCon.ofExec hm cfC_ok (fuel := 100) (depth := 10) (by kernel_rfl)
def catSub : E := .bin .sub .i64 (.len (.join (.var 0))) (.lit 0)
def catOk1 : List B := catOk ++ [.not (.lt catSub (.lit 0)), .not (.lt catSub (.lit 0)), .lt catSub (.lit 1073741824)] ++ catOk
theorem join1_ok : FConOk Pr (joinC 49) := by
  have h : FConOk Pr ⟨49, [llA 0], 0, [], .br (.lt (.lit 0) catSub) (.leaf { joinF with ok := catOk1 }) (.leaf { joinF with ok := catOk ++ catOk })⟩ := FCon.ofExec hm cfC_ok (fuel := 100) (depth := 10) (by kernel_rfl)
  refine FCon.alt h fun ρ q' hp hok => ?_
  cases hp
  have hok : okOk ρ catOk := hok
  obtain ⟨h1, h2⟩ := catOk_of hok
  have e : catSub.den ρ = ((ρ.ll 0).flatten.length : Nat) := by
    show IntKind.i64.wrap ((((ρ.ll 0).flatten.length : Nat) : Int) - 0) = _
    rw [Int.sub_zero]
    exact wrap_id .i64 _ (by show (-9223372036854775808 : Int) ≤ _; omega) (by show _ ≤ (9223372036854775807 : Int); omega)
  have hb : ∀ b ∈ catOk1, b.den ρ = true := by
    intro b hb
    simp only [catOk1, List.mem_append, List.mem_cons, List.not_mem_nil, or_false] at hb
    have q1 : (B.not (.lt catSub (.lit 0))).den ρ = true := by
      show (!ltb (catSub.den ρ) 0) = true
      rw [e, ltF (by omega)]; rfl
    rcases hb with (hb | rfl | rfl | rfl) | hb
    · exact hok b hb
    · exact q1
    · exact q1
    · show ltb (catSub.den ρ) 1073741824 = true
      rw [e]; exact ltT (by omega)
    · exact hok b hb
  simp only [T.pick]
  cases (B.lt (.lit 0) catSub).den ρ with
  | true => exact ⟨_, rfl, hb, V.imp.refl _ _, rfl, fun id o e => ⟨o, e, rfl, rfl, Row.imp.refl _ _⟩⟩
  | false => exact ⟨_, rfl, fun b hb' => (List.mem_append.1 hb').elim (hok b) (hok b), V.imp.refl _ _, rfl, fun id o e => ⟨o, e, rfl, rfl, Row.imp.refl _ _⟩⟩
end Go.Proofs.Ytlghaoohfklpnaa.E
/- Commits as bytes: loops. -/
namespace Go.Proofs.Ytlghaoohfklpnaa.E
open Go Go.RowKit
set_option maxRecDepth 100000
set_option linter.unusedVariables false
def voteA (i : Nat) : V := .fs 3 (.recs 3 (.cnt (.var i)) (tI .i64 3 (.var i)))
/-- a commit's cells: numbers from letter 'e' on, tag 'l', operations 'a', votes 'b', boxes 'c'. -/
def commitCs (e l a b c : Nat) : List V := [ival e, ival (e + 1), opsA a, voteA b, ival (e + 2), ival (e + 3), ival (e + 4), ival (e + 5), llA c] ++ ((List.range 32).map fun k => .int .u8 (.get (.var l) (.lit (.ofNat k)))) ++ [ival (e + 6), ival (e + 7)]
def commitA : V := .agg (commitCs 0 0 0 1 2)
noncomputable def ttB : TT := tabF [joinC 49, joinC 86] (tabC [numC 101, numC 30, opsC 100, opsC 139])
theorem ttB_ok (ρ : Env) : TTOk Pr ρ ttB := tabF_ok (tabC_ok (all_cons num1_ok (all_cons num2_ok (all_cons ops1_ok (all_cons ops2_ok all_nil))))) (all_cons join1_ok (all_cons join2_ok all_nil))
noncomputable def cfB : Cf := ⟨ttB, lpC [], noMg⟩
theorem cfB_ok : CfOk Pr cfB := ⟨ttB_ok, fun ρ => lpC_ok all_nil⟩
/-! votes -/
def votesL (a : LL) : L := .app 17 .nil a
theorem votesM_wrap (l : List (List Int)) : (votesM l).map IntKind.u8.wrap = votesM l := by
  unfold votesM
  induction l with
  | nil => rfl
  | cons a l ih => rw [List.flatMap_cons, List.map_append, numsM_wrap, ih]
theorem votesM_len (l : List (List Int)) : (votesM l).length = 24 * l.length := by
  unfold votesM
  induction l with
  | nil => rfl
  | cons a l ih => rw [List.flatMap_cons, List.length_append, ih, numsM_len, List.length_map, List.length_range, List.length_cons]; omega
theorem votesL_den (ρ : Env) (a : LL) : (votesL a).den ρ = votesM (a.den ρ) := by
  show (votesM (a.den ρ)).map IntKind.u8.wrap = _
  exact votesM_wrap _
def votesG : L := votesL (restLL (.var 0) (.var 0))
def voteX : L := .cat (oprN 0) (.cat (oprN 1) (oprN 2))
theorem voteX_den (ρ : Env) : voteX.den ρ = numsM ((List.range 3).map fun i => ((ρ.ll 0).getD (ρ.e 0).toNat []).getD i 0) := by
  simp [numsM, List.range_succ, List.flatMap_cons, oprN, numL_den, voteX, L.den, E.den, LL.den]
/-- what a round does to the letters that are looked at. -/
def appSub (s : Sub) (X : L) : Prop := ∀ ρ : Env, (ρ.sub s).e 0 = binI .add .i64 (ρ.e 0) 1 ∧ (ρ.sub s).l 0 = ρ.l 0 ++ X.den ρ ∧ (ρ.sub s).ll 0 = ρ.ll 0
def votesOks : List B := [.lt (.len (.cat (.var 0) voteX)) (.lit 1073741824), .lt (.len (.cat (.var 0) (oprN 0))) (.lit 1073741824), .lt (.len (.cat (.var 0) (.cat (oprN 0) (oprN 1)))) (.lit 1073741824), opsIx]
theorem votesHead {f id slot n0 n1 x : Nat} {H : LHead} {osl oob : List Nat} {s : Sub} {oks : List B} {fr2 : List (Nat × V)} {ob2 : List (Nat × Ob)}
    (hr : roundH Pr cfB 100 10 f id H [] osl oob = .br (.lt (.var 0) (.cnt (.var 0))) (.leaf (.go s oks)) (.leaf (.out ⟨.exit x, rowFr slot n0 1 (.var 0) ++ fr2, n1, rowOb n0 .u8 5 (.var 0) ++ ob2, []⟩)))
    (h2 : subFr s fr2 = fr2) (h3 : subOb s ob2 = ob2) (hs : appSub s voteX) (ho : amongB votesOks oks = true) : HeadOk Pr f id H (appI 0 0 (.cnt (.var 0)) votesG) (appResX slot n0 n1 x 0 .u8 5 votesG (appOk 0 0 (.cnt (.var 0)) votesG) fr2 ob2) := by
  have step : ∀ ρ : Env, 0 ≤ ρ.e 0 → ρ.e 0 < ((ρ.ll 0).length : Nat) → (ρ.sub s).e 0 = ρ.e 0 + 1 → votesG.den ρ = voteX.den ρ ++ votesG.den (ρ.sub s) := fun ρ h0 hlt e1 => by
    unfold votesG
    rw [votesL_den, votesL_den, restLL_den, restLL_den, voteX_den]
    show votesM ((ρ.ll 0).drop (ρ.e 0).toNat) = _ ++ votesM (((ρ.sub s).ll 0).drop ((ρ.sub s).e 0).toNat)
    rw [e1, (hs ρ).2.2, drop_at (d := []) h0 hlt]
    simp only [votesM, List.flatMap_cons]
  refine HeadOk.appX hm cfB_ok hr h2 h3 votesG (fun ρ => (hs ρ).1) (fun ρ h0 hlt e1 => ⟨?_, _, (hs ρ).2.1, step ρ h0 hlt e1⟩) (fun ρ hI hlt e1 b hb => ?_) fun ρ he => ?_
  · show (((ρ.sub s).ll 0).length : Int) = ((ρ.ll 0).length : Nat)
    rw [(hs ρ).2.2]
  · have hb := amongB_ok ho b hb
    have h4 := hI.2.2.2
    rw [step ρ hI.1 hlt e1, List.length_append] at h4
    simp only [votesOks, List.mem_cons, List.not_mem_nil, or_false] at hb
    have hl : (voteX.den ρ).length = 24 := by rw [voteX_den, numsM_len, List.length_map, List.length_range]
    rcases hb with rfl | rfl | rfl | rfl
    · exact ok_len (m := 1073741824) (by show (ρ.l 0 ++ voteX.den ρ).length < _; rw [List.length_append]; omega)
    · exact ok_len (m := 1073741824) (by simp only [L.den, List.length_append, oprN, numL_den, numB_len]; omega)
    · exact ok_len (m := 1073741824) (by simp only [L.den, List.length_append, oprN, numL_den, numB_len]; omega)
    · exact ok_ix hI.1 hlt
  · have he : ρ.e 0 = ((ρ.ll 0).length : Nat) := he
    unfold votesG
    rw [votesL_den, restLL_den]
    show votesM ((ρ.ll 0).drop (ρ.e 0).toNat) = []
    rw [he, Int.toNat_natCast, List.drop_length]; rfl
def vote1H : LHead := ⟨[(3, .sl 9 0 (.lit 0) (.len (.var 0)) 1 true), (28, voteA 0), (29, .int .i64 (.cnt (.var 0))), (30, ival 0)], 9, [15], [(9, ⟨.ints .u8 (.var 0), true, 5⟩)]⟩
def commitOb : List (Nat × Ob) := [(0, ⟨.any (commitCs 1 1 1 0 2), true, 44⟩)]
def vote2H : LHead := ⟨[(1, .ptr 0 (.lit 0) 0 0), (3, .sl 7 0 (.lit 0) (.len (.var 0)) 1 true), (4, ival 0)], 7, [12], (7, ⟨.ints .u8 (.var 0), true, 5⟩) :: commitOb⟩
def vote1S : Sub := ⟨[.bin .add .i64 (.var 0) (.lit 1)], [.cat (.var 0) voteX], [.var 0], [], .ix⟩
def vote2S : Sub := ⟨[.bin .add .i64 (.var 0) (.lit 1), .var 1, .var 2, .var 3, .var 4, .var 5, .var 6, .var 7, .var 8], [.cat (.var 0) voteX, .sub (.var 1) 0 32], [.var 0, .var 1, .var 2], [], .ix⟩
theorem vote1Head : HeadOk Pr 50 3 vote1H (appI 0 0 (.cnt (.var 0)) votesG) (appResX 3 9 10 0 0 .u8 5 votesG (appOk 0 0 (.cnt (.var 0)) votesG) [] []) :=
  votesHead (osl := [3]) (oob := [9]) (s := vote1S) (oks := oksOf (roundH Pr cfB 100 10 50 3 vote1H [] [3] [9])) (by kernel_rfl) rfl rfl (fun _ => ⟨rfl, rfl, rfl⟩) (by kernel_rfl)
theorem vote2Head : HeadOk Pr 117 3 vote2H (appI 0 0 (.cnt (.var 0)) votesG) (appResX 3 7 8 0 0 .u8 5 votesG (appOk 0 0 (.cnt (.var 0)) votesG) [(1, .ptr 0 (.lit 0) 0 0)] commitOb) :=
  votesHead (osl := [3, 1]) (oob := [7, 0]) (s := vote2S) (oks := oksOf (roundH Pr cfB 100 10 117 3 vote2H [] [3, 1] [7, 0])) (by kernel_rfl) (by kernel_rfl) (by kernel_rfl) (fun _ => ⟨rfl, rfl, rfl⟩) (by kernel_rfl)
def from1 : Sub := ⟨[.lit 0], [.var 0], [.var 0], [], .ix⟩
def from2 : Sub := ⟨[.lit 0, .var 1, .var 2, .var 3, .var 4, .var 5, .var 6, .var 7, .var 8], [.var 0, .var 1], [.var 0, .var 1, .var 2], [], .ix⟩
/-- a loop's contract, made of its head. -/
def lcon (f id : Nat) (ds : List Nat) (H : LHead) (p0 : List Nat) (s : Sub) (res : T LRes) : LCon := ⟨f, id, ds, (H.at p0).map fun p => (p.1, p.2.sub s), H.n0, (H.obs p0).map fun p => (p.1, p.2.sub s), T.sub s res⟩
noncomputable def vote1L : LCon := lcon 50 3 (theDs Pr 50 3) vote1H [8] from1 (appResX 3 9 10 0 0 .u8 5 votesG (appOk 0 0 (.cnt (.var 0)) votesG) [] [])
noncomputable def vote2L : LCon := lcon 117 3 (theDs Pr 117 3) vote2H [6] from2 (appResX 3 7 8 0 0 .u8 5 votesG (appOk 0 0 (.cnt (.var 0)) votesG) [(1, .ptr 0 (.lit 0) 0 0)] commitOb)
theorem vote1L_ok : LConOk Pr vote1L := LConOk.ofS vote1Head [8] from1 rfl (by kernel_rfl) rfl rfl fun ρ r hp hok => appX_nil rfl ρ r hp hok
theorem vote2L_ok : LConOk Pr vote2L := LConOk.ofS vote2Head [6] from2 rfl (by kernel_rfl) rfl (by kernel_rfl) fun ρ r hp hok => appX_nil rfl ρ r hp hok
noncomputable def cfB1 : Cf := ⟨ttB, lpC [vote1L, vote2L], noMg⟩
/-! boxes -/
def boxesL (a : LL) : L := .app 18 .nil a
theorem boxesL_den (ρ : Env) (a : LL) : (boxesL a).den ρ = boxesM (a.den ρ) := rfl
def boxesG : L := boxesL (restLL (.var 0) (.var 0))
def boxAt : L := .at (.var 0) (.var 0)
def boxX : L := .cat (numL (.len boxAt)) boxAt
theorem boxX_den (ρ : Env) : boxX.den ρ = numB ((((ρ.ll 0).getD (ρ.e 0).toNat []).length : Nat)) ++ (ρ.ll 0).getD (ρ.e 0).toNat [] := rfl
def boxesOks : List B := [.lt (.len (.cat (.var 0) boxX)) (.lit 1073741824), .lt (.len (.cat (.var 0) (numL (.len boxAt)))) (.lit 1073741824), opsIx]
theorem boxesHead {f id slot n0 n1 x : Nat} {H : LHead} {osl oob : List Nat} {s : Sub} {oks : List B} {fr2 : List (Nat × V)} {ob2 : List (Nat × Ob)}
    (hr : roundH Pr cfB 100 10 f id H [] osl oob = .br (.lt (.var 0) (.cnt (.var 0))) (.leaf (.go s oks)) (.leaf (.out ⟨.exit x, rowFr slot n0 1 (.var 0) ++ fr2, n1, rowOb n0 .u8 5 (.var 0) ++ ob2, []⟩)))
    (h2 : subFr s fr2 = fr2) (h3 : subOb s ob2 = ob2) (hs : appSub s boxX) (ho : amongB boxesOks oks = true) : HeadOk Pr f id H (appI 0 0 (.cnt (.var 0)) boxesG) (appResX slot n0 n1 x 0 .u8 5 boxesG (appOk 0 0 (.cnt (.var 0)) boxesG) fr2 ob2) := by
  have step : ∀ ρ : Env, 0 ≤ ρ.e 0 → ρ.e 0 < ((ρ.ll 0).length : Nat) → (ρ.sub s).e 0 = ρ.e 0 + 1 → boxesG.den ρ = boxX.den ρ ++ boxesG.den (ρ.sub s) := fun ρ h0 hlt e1 => by
    unfold boxesG
    rw [boxesL_den, boxesL_den, restLL_den, restLL_den, boxX_den]
    show boxesM ((ρ.ll 0).drop (ρ.e 0).toNat) = _ ++ boxesM (((ρ.sub s).ll 0).drop ((ρ.sub s).e 0).toNat)
    rw [e1, (hs ρ).2.2, drop_at (d := []) h0 hlt]
    simp only [boxesM, List.flatMap_cons]
  refine HeadOk.appX hm cfB_ok hr h2 h3 boxesG (fun ρ => (hs ρ).1) (fun ρ h0 hlt e1 => ⟨?_, _, (hs ρ).2.1, step ρ h0 hlt e1⟩) (fun ρ hI hlt e1 b hb => ?_) fun ρ he => ?_
  · show (((ρ.sub s).ll 0).length : Int) = ((ρ.ll 0).length : Nat)
    rw [(hs ρ).2.2]
  · have hb := amongB_ok ho b hb
    have h4 := hI.2.2.2
    rw [step ρ hI.1 hlt e1, List.length_append, boxX_den, List.length_append, numB_len] at h4
    simp only [boxesOks, List.mem_cons, List.not_mem_nil, or_false] at hb
    rcases hb with rfl | rfl | rfl
    · exact ok_len (m := 1073741824) (by show (ρ.l 0 ++ boxX.den ρ).length < _; rw [List.length_append, boxX_den, List.length_append, numB_len]; omega)
    · exact ok_len (m := 1073741824) (by simp only [L.den, List.length_append, numL_den, numB_len]; omega)
    · exact ok_ix hI.1 hlt
  · have he : ρ.e 0 = ((ρ.ll 0).length : Nat) := he
    unfold boxesG
    rw [boxesL_den, restLL_den]
    show boxesM ((ρ.ll 0).drop (ρ.e 0).toNat) = []
    rw [he, Int.toNat_natCast, List.drop_length]; rfl
def box1H : LHead := ⟨[(3, .sl 17 0 (.lit 0) (.len (.var 0)) 1 true), (66, llA 0), (67, .int .i64 (.cnt (.var 0))), (68, ival 0)], 17, [21], [(17, ⟨.ints .u8 (.var 0), true, 5⟩)]⟩
def commitOb2 : List (Nat × Ob) := [(0, ⟨.any (commitCs 1 1 1 2 0), true, 44⟩)]
def box2H : LHead := ⟨[(1, .ptr 0 (.lit 0) 0 0), (3, .sl 15 0 (.lit 0) (.len (.var 0)) 1 true), (5, ival 0)], 15, [17], (15, ⟨.ints .u8 (.var 0), true, 5⟩) :: commitOb2⟩
def box1S : Sub := ⟨[.bin .add .i64 (.var 0) (.lit 1)], [.cat (.var 0) boxX], [.var 0], [], .ix⟩
def box2S : Sub := ⟨[.bin .add .i64 (.var 0) (.lit 1), .var 1, .var 2, .var 3, .var 4, .var 5, .var 6, .var 7, .var 8], [.cat (.var 0) boxX, .sub (.var 1) 0 32], [.var 0, .var 1, .var 2], [], .ix⟩
def box1R : T LRes := appResX 3 17 18 2 0 .u8 5 boxesG (appOk 0 0 (.cnt (.var 0)) boxesG) [] []
def box2R : T LRes := appResX 3 15 16 2 0 .u8 5 boxesG (appOk 0 0 (.cnt (.var 0)) boxesG) [(1, .ptr 0 (.lit 0) 0 0)] commitOb2
theorem box1Head : HeadOk Pr 50 9 box1H (appI 0 0 (.cnt (.var 0)) boxesG) box1R :=
  boxesHead (osl := [3]) (oob := [17]) (s := box1S) (oks := oksOf (roundH Pr cfB 100 10 50 9 box1H [] [3] [17])) (by kernel_rfl) rfl rfl (fun _ => ⟨rfl, rfl, rfl⟩) (by kernel_rfl)
theorem box2Head : HeadOk Pr 117 8 box2H (appI 0 0 (.cnt (.var 0)) boxesG) box2R :=
  boxesHead (osl := [3, 1]) (oob := [15, 0]) (s := box2S) (oks := oksOf (roundH Pr cfB 100 10 117 8 box2H [] [3, 1] [15, 0])) (by kernel_rfl) (by kernel_rfl) (by kernel_rfl) (fun _ => ⟨rfl, rfl, rfl⟩) (by kernel_rfl)
noncomputable def box1L : LCon := lcon 50 9 (theDs Pr 50 9) box1H [16] from1 box1R
noncomputable def box2L : LCon := lcon 117 8 (theDs Pr 117 8) box2H [14] from2 box2R
theorem box1L_ok : LConOk Pr box1L := LConOk.ofS box1Head [16] from1 rfl (by kernel_rfl) rfl rfl fun ρ r hp hok => appX_nil rfl ρ r hp hok
theorem box2L_ok : LConOk Pr box2L := LConOk.ofS box2Head [14] from2 rfl (by kernel_rfl) rfl (by kernel_rfl) fun ρ r hp hok => appX_nil rfl ρ r hp hok
noncomputable def cfB2 : Cf := ⟨ttB, lpC [vote1L, vote2L, box1L, box2L], noMg⟩
theorem cfB2_ok : CfOk Pr cfB2 := ⟨ttB_ok, fun ρ => lpC_ok (all_cons vote1L_ok (all_cons vote2L_ok (all_cons box1L_ok (all_cons box2L_ok all_nil))))⟩
end Go.Proofs.Ytlghaoohfklpnaa.E
/- Commits as bytes: contracts. -/
namespace Go.Proofs.Ytlghaoohfklpnaa.E
open Go Go.RowKit
set_option maxRecDepth 100000
set_option linter.unusedVariables false
def catL : List L → L
  | [] => .nil
  | [a] => a
  | a :: b :: l => .cat a (catL (b :: l))
theorem catL_den (ρ : Env) : ∀ l : List L, (catL l).den ρ = l.flatMap (L.den ρ)
  | [] => rfl
  | [a] => by simp [catL]
  | a :: b :: l => by rw [catL, L.den, catL_den ρ (b :: l)]; rfl
def bodyParts : List L := [numL (.var 0), numL (.var 1), numL (.cnt (.var 0)), opsL (.var 0), numL (.cnt (.var 1)), votesL (.var 1), numL (.var 2), numL (.var 3), numL (.var 4), numL (.var 5), numL (.cnt (.var 2)), boxesL (.var 2)]
def bodyL : L := catL bodyParts
def ltLen (l : L) : B := .lt (.len l) (.lit 1073741824)
def ltCnt (l : LL) : B := .lt (.cnt l) (.lit 4611686018427387904)
def bodyOk0 : List B := [ltCnt (.var 2), ltLen bodyL, ltLen (catL (bodyParts.take 11)), ltCnt (.var 1), ltLen (catL (bodyParts.take 6)), ltLen (catL (bodyParts.take 5)), ltCnt (.var 0), ltLen (opsL (.var 0))]
def bodyOk : List B := [ltCnt (.var 0), ltCnt (.var 1), ltCnt (.var 2), ltLen bodyL]
def rowF (l : L) (ok : List B) : FRes := ⟨.sl 0 0 (.lit 0) (.len l) 1 true, 1, [(0, ⟨.ints .u8 l, true, 5⟩)], ok⟩
def bodyC (f : FuncId) : FCon := ⟨f, [commitA], 0, [], .leaf (rowF bodyL bodyOk)⟩
theorem take_len (ρ : Env) (l : List L) (k : Nat) : ((catL (l.take k)).den ρ).length ≤ ((catL l).den ρ).length := by
  rw [catL_den, catL_den]
  conv => rhs; rw [← List.take_append_drop k l]
  rw [List.flatMap_append, List.length_append]; omega
theorem ltLen_of {ρ : Env} {a b : L} (h : (a.den ρ).length ≤ (b.den ρ).length) (hb : (ltLen b).den ρ = true) : (ltLen a).den ρ = true := by
  have : (((b.den ρ).length : Nat) : Int) < 1073741824 := ltb_ok hb
  exact ltT (by show (((a.den ρ).length : Nat) : Int) < 1073741824; omega)
theorem bodyOk_all {ρ : Env} (h : okOk ρ bodyOk) : okOk ρ bodyOk0 := by
  have h0 := h (ltCnt (.var 0)) (by simp [bodyOk])
  have h1 := h (ltCnt (.var 1)) (by simp [bodyOk])
  have h2 := h (ltCnt (.var 2)) (by simp [bodyOk])
  have h3 := h (ltLen bodyL) (by simp [bodyOk])
  intro b hb
  simp only [bodyOk0, List.mem_cons, List.not_mem_nil, or_false] at hb
  rcases hb with rfl | rfl | rfl | rfl | rfl | rfl | rfl | rfl
  · exact h2
  · exact h3
  · exact ltLen_of (take_len ρ bodyParts 11) h3
  · exact h1
  · exact ltLen_of (take_len ρ bodyParts 6) h3
  · exact ltLen_of (take_len ρ bodyParts 5) h3
  · exact h0
  · refine ltLen_of ?_ h3
    unfold bodyL
    rw [catL_den]
    simp only [bodyParts, List.flatMap_cons, List.length_append]
    omega
theorem bodyC_of {f : FuncId} (h : (execF Pr cfB2 100 10 f [commitA] 0 []).bind (compact 0) = .leaf (rowF bodyL bodyOk0)) : FConOk Pr (bodyC f) := by
  refine FCon.alt (FCon.ofExec hm cfB2_ok h) fun ρ q' hp hok => ?_
  cases hp
  exact ⟨_, rfl, bodyOk_all hok, V.imp.refl _ _, rfl, fun id o e => ⟨o, e, rfl, rfl, Row.imp.refl _ _⟩⟩
theorem body1_ok : FConOk Pr (bodyC 50) := bodyC_of (by kernel_rfl)
theorem body2_ok : FConOk Pr (bodyC 117) := bodyC_of (by kernel_rfl)
end Go.Proofs.Ytlghaoohfklpnaa.E
/- May a commit be? -/
namespace Go.Proofs.Ytlghaoohfklpnaa.E
open Go Go.RowKit
set_option maxRecDepth 100000
set_option linter.unusedVariables false
noncomputable def cfM : Cf := ⟨noTab, lpC [], allMg⟩
theorem cfM_ok : CfOk Pr cfM := ⟨fun ρ => noTab_ok Pr ρ, fun ρ => lpC_ok all_nil⟩
def inBs (e : E) (m : Int) : List B := [.not (.lt e (.lit 0)), .not (.lt (.lit m) e)]
def andB : List B → B
  | [] => .lit true
  | [a] => a
  | a :: b :: l => .and a (andB (b :: l))
def elB (l k : Nat) : E := .get (.at (.var l) .ix) (.lit (.ofNat k))
def opB (l : Nat) : B := .lt (.find (.cnt (.var l)) (.not (andB (inBs (elB l 0) 1099511627776 ++ inBs (elB l 1) 1099511627776 ++ inBs (elB l 2) 1099511627776 ++ inBs (elB l 3) 1099511627776 ++ inBs (elB l 4) 1099511627776)))) (.cnt (.var l))
def voteB (l : Nat) : B := .lt (.find (.cnt (.var l)) (.not (andB (inBs (elB l 0) 7 ++ inBs (elB l 1) 1073741788 ++ inBs (elB l 2) 1073741788)))) (.cnt (.var l))
def boxB (l : Nat) : B := .lt (.find (.cnt (.var l)) (.lt (.lit 300) (.len (.at (.var l) .ix)))) (.cnt (.var l))
/-- a commit that may be. -/
def mayB : B := andB (inBs (.var 0) 1099511627776 ++ inBs (.var 1) 7 ++ inBs (.var 2) 2147483579 ++ inBs (.var 3) 2147483579 ++ inBs (.var 4) 2147483579 ++ inBs (.var 5) 2147483579 ++ inBs (.var 6) 1073741788 ++ inBs (.var 7) 1073741788 ++
  [.not (.lt (.lit 4) (.cnt (.var 0))), .not (.lt (.lit 8) (.cnt (.var 1))), .not (.lt (.lit 16) (.cnt (.var 2))), .not (opB 0), .not (voteB 1), .not (boxB 2)])
/-- a truth that is asked for as a whole. -/
def hideB (b : B) : B := .lt (.lit 0) (.ofB b)
theorem hideB_den (ρ : Env) (b : B) : (hideB b).den ρ = b.den ρ := by
  show ltb 0 (b2i (b.den ρ)) = _
  cases b.den ρ <;> rfl
theorem Con.hide {P : Program} {g : FuncId} {args : List V} {b : B} {fs : List B} (h : ConOk P ⟨g, args, .leaf (.bool b, fs)⟩) : ConOk P ⟨g, args, .leaf (.bool (hideB b), fs)⟩ := by
  refine Con.alt h fun ρ r' bs' hp hok => ?_
  cases hp
  refine ⟨_, _, rfl, hok, fun β x e hr => ?_⟩
  have hr : F1 (.bool b) β.g x := hr
  have : F1 (.bool (hideB b)) β.g x := by
    simp only [F1] at hr ⊢
    rw [hr, hideB_den]
  exact R0.toR (F1.up this)
def mayC (f : FuncId) : Con := ⟨f, [commitA], .leaf (.bool (hideB mayB), [ltCnt (.var 0), ltCnt (.var 1), ltCnt (.var 2)])⟩
theorem may1_ok : ConOk Pr (mayC 48) := Con.hide (Con.bool (Con.ofExec hm cfM_ok (fuel := 100) (depth := 12) rfl rfl) mayB _ (by kernel_rfl))
theorem may2_ok : ConOk Pr (mayC 17) := Con.hide (Con.bool (Con.ofExec hm cfM_ok (fuel := 100) (depth := 10) rfl rfl) mayB _ (by kernel_rfl))
end Go.Proofs.Ytlghaoohfklpnaa.E
/- Commits as bytes, whole: contracts. -/
namespace Go.Proofs.Ytlghaoohfklpnaa.E
open Go Go.RowKit
set_option maxRecDepth 100000
set_option linter.unusedVariables false
noncomputable def ttC : TT := tabF [joinC 49, joinC 86, bodyC 50, bodyC 117] (tabC [numC 101, numC 30, mayC 48, mayC 17])
noncomputable def cfC2 : Cf := ⟨ttC, lpC [], noMg⟩
theorem cfC2_ok : CfOk Pr cfC2 := ⟨fun ρ => tabF_ok (tabC_ok (all_cons num1_ok (all_cons num2_ok (all_cons may1_ok (all_cons may2_ok all_nil))))) (all_cons join1_ok (all_cons join2_ok (all_cons body1_ok (all_cons body2_ok all_nil)))), fun ρ => lpC_ok all_nil⟩
def commitL : L := .cons (.lit 1) (catL (bodyParts ++ [.sub (.var 0) 0 32, numL (.var 6), numL (.var 7)]))
def cnts : List B := [ltCnt (.var 0), ltCnt (.var 1), ltCnt (.var 2)]
def commitT : T FRes := .br (hideB mayB) (.leaf ⟨.tup [.sl 0 0 (.lit 0) (.len commitL) 1 true, .int .i64 (.lit 0)], 1, [(0, ⟨.ints .u8 commitL, true, 5⟩)], ltLen commitL :: (cnts ++ ltLen bodyL :: cnts)⟩) (.leaf ⟨.tup [.sc (.slice none 0 0), .int .i64 (.lit 1)], 0, [], cnts⟩)
def commitC (f : FuncId) : FCon := ⟨f, [commitA], 0, [], commitT⟩
theorem commit1_ok : FConOk Pr (commitC 18) := FCon.ofExec hm cfC2_ok (fuel := 100) (depth := 10) (by kernel_rfl)
theorem commit2_ok : FConOk Pr (commitC 81) := FCon.ofExec hm cfC2_ok (fuel := 100) (depth := 10) (by kernel_rfl)
end Go.Proofs.Ytlghaoohfklpnaa.E
/- How much a commit is: the laws' own loop. -/
namespace Go.Proofs.Ytlghaoohfklpnaa.E
open Go Go.RowKit
set_option maxRecDepth 100000
set_option linter.unusedVariables false
def bigOb : List (Nat × Ob) := [(0, ⟨.any (commitCs 2 0 1 2 0), true, 44⟩)]
def bigH : LHead := ⟨[(1, .ptr 0 (.lit 0) 0 0), (3, ival 1), (4, ival 0)], 1, [], bigOb⟩
def cfL : Cf := ⟨noTab, lpC [], noMg⟩
theorem cfL_ok : CfOk Pr cfL := ⟨fun ρ => noTab_ok Pr ρ, fun ρ => lpC_ok all_nil⟩
def bigE : E := .get (.app 19 (.cons (.var 1) .nil) (restLL (.var 0) (.var 0))) (.lit 0)
theorem bigE_den (ρ : Env) : bigE.den ρ = bigN (ρ.e 1) ((ρ.ll 0).drop (ρ.e 0).toNat) := by
  show bigN (ρ.e 1) ((restLL (.var 0) (.var 0)).den ρ) = _
  rw [restLL_den]; rfl
def bigS : Sub := ⟨[.bin .add .i64 (.var 0) (.lit 1), .bin .add .i64 (.var 1) (.len (.at (.var 0) (.var 0))), .var 2, .var 3, .var 4, .var 5, .var 6, .var 7, .var 8, .var 9], [.sub (.var 0) 0 32], [.var 0, .var 1, .var 2], [], .ix⟩
def bigI (ρ : Env) : Prop := 0 ≤ ρ.e 0 ∧ ρ.e 0 ≤ ((ρ.ll 0).length : Nat) ∧ (ρ.ll 0).length < 4611686018427387904
def bigOkr : List B := [.not (.lt (.var 0) (.lit 0)), .not (.lt (.cnt (.var 0)) (.var 0)), ltCnt (.var 0)]
def bigFr (e : E) : List (Nat × V) := [(1, .ptr 0 (.lit 0) 0 0), (3, .int .i64 e)]
def bigR : T LRes := .leaf ⟨.exit 0, bigFr bigE, 1, bigOb, bigOkr⟩
def bigT : T LEnd := .br (.lt (.var 0) (.cnt (.var 0))) (.br (.lt (.var 1) (.lit 3000)) (.leaf (.go bigS [opsIx, opsIx])) (.leaf (.out ⟨.exit 0, bigFr (.var 1), 1, bigOb, []⟩))) (.leaf (.out ⟨.exit 0, bigFr (.var 1), 1, bigOb, []⟩))
theorem lt3000 (n : Int) : (match n with | .ofNat m => Nat.blt m 3000 | .negSucc _ => true) = ltb n 3000 := by
  cases n <;> rfl
theorem bigN_cons (n : Int) (r : List Int) (l : List (List Int)) : bigN n (r :: l) = bif ltb n 3000 then bigN (IntKind.i64.wrap (n + (r.length : Nat))) l else n := by
  cases n <;> rfl
theorem bigN_nil (n : Int) : bigN n [] = n := by cases n <;> rfl
theorem bigHead : HeadOk Pr 16 3 bigH bigI bigR := by
  have hr : roundH Pr cfL 100 12 16 3 bigH [] [1, 3] [0] = bigT := by kernel_rfl
  have hob : subOb bigS bigOb = bigOb := by kernel_rfl
  refine HeadOk.of hm cfL_ok hr bigI (fun ρ => (((ρ.ll 0).length : Nat) - ρ.e 0).toNat) _ (fun ρ _ x hx => by cases hx) fun ρ r hI hp => ?_
  cases hp
  obtain ⟨h1, h2, h3⟩ := hI
  have out : ρ.e 1 = bigE.den ρ → ∀ ok, LRes.imp ρ ⟨.exit 0, bigFr (.var 1), 1, bigOb, []⟩ ⟨.exit 0, bigFr bigE, 1, bigOb, ok⟩ := fun he ok =>
    LRes.mk_imp ⟨rfl, V.imp.refl _ _, rfl, V.imp.int he, trivial⟩ (ImpOb.refl _ _)
  unfold bigT
  simp only [T.pick]
  have hb : (B.lt (.var 0) (.cnt (.var 0))).den ρ = ltb (ρ.e 0) ((ρ.ll 0).length : Nat) := rfl
  have hb2 : (B.lt (.var 1) (.lit 3000)).den ρ = ltb (ρ.e 1) 3000 := rfl
  rw [hb, hb2]
  cases hc : ltb (ρ.e 0) ((ρ.ll 0).length : Nat) with
  | true =>
    have hlt : ρ.e 0 < ((ρ.ll 0).length : Nat) := ltb_ok hc
    have hd := drop_at (l := ρ.ll 0) (d := []) h1 hlt
    cases hc2 : ltb (ρ.e 1) 3000 with
    | true =>
      have e0 : (ρ.sub bigS).e 0 = ρ.e 0 + 1 := add1 h1 hlt (by omega)
      have e1 : (ρ.sub bigS).e 1 = IntKind.i64.wrap (ρ.e 1 + (((ρ.ll 0).getD (ρ.e 0).toNat []).length : Nat)) := rfl
      have ell : (ρ.sub bigS).ll 0 = ρ.ll 0 := rfl
      refine ⟨_, rfl, ?_, fun hs => ?_⟩
      · intro b hb
        simp only [List.mem_cons, List.not_mem_nil, or_false, or_self] at hb
        subst hb; exact ok_ix h1 hlt
      · refine ⟨⟨by rw [e0]; omega, by rw [e0, ell]; omega, by rw [ell]; exact h3⟩, by rw [e0, ell]; omega, _, rfl, ?_⟩
        unfold LRes.subst
        simp only
        have e3 : bigOb.map (fun p => (p.1, p.2.sub bigS)) = bigOb := hob
        rw [e3]
        refine LRes.mk_imp (fr := [(1, .ptr 0 (.lit 0) 0 0), (3, .int .i64 (bigE.sub bigS))]) (fr' := bigFr bigE) ⟨rfl, V.imp.refl _ _, rfl, V.imp.int ?_, trivial⟩ (ImpOb.refl _ _)
        rw [E.sub_den hs, bigE_den, bigE_den, e0, e1, ell, hd, bigN_cons, hc2, cond_true]
    | false =>
      refine ⟨_, rfl, ?_⟩
      refine ⟨fun b hb => (by cases hb), out ?_ _, by simp⟩
      rw [bigE_den, hd, bigN_cons, hc2, cond_false]
  | false =>
    have hge : ((ρ.ll 0).length : Nat) ≤ ρ.e 0 := ltb_no hc
    refine ⟨_, rfl, ?_⟩
    refine ⟨fun b hb => (by cases hb), out ?_ _, by simp⟩
    have : (ρ.e 0).toNat = (ρ.ll 0).length := by omega
    rw [bigE_den, this, List.drop_length, bigN_nil]
def big0 : Sub := ⟨[.lit 0, .var 1, .var 2, .var 3, .var 4, .var 5, .var 6, .var 7, .var 8, .var 9], [.var 0], [.var 0, .var 1, .var 2], [], .ix⟩
noncomputable def bigL : LCon := lcon 16 3 (theDs Pr 16 3) bigH [] big0 bigR
theorem bigL_ok : LConOk Pr bigL := LConOk.ofS bigHead [] big0 rfl (by kernel_rfl) rfl (by kernel_rfl) fun ρ r hp hok => by
  cases hp
  have h3 : ((ρ.ll 0).length : Int) < 4611686018427387904 := ltb_ok (a := ((ρ.ll 0).length : Nat)) (by
    have := hok ((ltCnt (.var 0)).sub big0) (by simp [bigOkr])
    rwa [B.sub_den (Sub.noix_ok rfl)] at this)
  exact ⟨Int.le_refl _, by show (0 : Int) ≤ ((ρ.ll 0).length : Nat); omega, by show (ρ.ll 0).length < _; omega⟩
noncomputable def cfL1 : Cf := ⟨noTab, lpC [bigL], noMg⟩
theorem cfL1_ok : CfOk Pr cfL1 := ⟨fun ρ => noTab_ok Pr ρ, fun ρ => lpC_ok (all_cons bigL_ok all_nil)⟩
def bigB : B := .not (.lt (.get (.app 19 (.cons (.bin .add .i64 (.bin .add .i64 (.cnt (.var 0)) (.cnt (.var 1))) (.cnt (.var 2))) .nil) (.var 2)) (.lit 0)) (.lit 3000))
def bigC : Con := ⟨16, [commitA], .leaf (.bool bigB, [ltCnt (.var 2)])⟩
theorem big_ok : ConOk Pr bigC := Con.ofExec hm cfL1_ok (fuel := 100) (depth := 10) rfl (by kernel_rfl)
end Go.Proofs.Ytlghaoohfklpnaa.E
/- The wire laws' own closed step; a law by its arguments' types. -/
namespace Go.Proofs.Ytlghaoohfklpnaa.E
open Go Go.RowKit
set_option maxRecDepth 100000
set_option linter.unusedVariables false
def knownC : Con := ⟨21, [], .leaf (.bool (.lit true), [])⟩
theorem knownC_ok : ConOk Pr knownC := Con.ofExec hm (cf := ⟨noTab, lpC [], noMg⟩) cfL_ok (fuel := 4000) (depth := 40) rfl (by kernel_rfl)
end Go.Proofs.Ytlghaoohfklpnaa.E
/- WireLong, WireCommits: what is left to show. -/
namespace Go.Proofs.Ytlghaoohfklpnaa.E
open Go Go.RowKit
set_option maxRecDepth 100000
set_option linter.unusedVariables false
def commitK : List K1 := [.int .i64, .int .i64, .sl [.int .i64, .int .i64, .int .i64, .int .i64, .int .i64], .sl [.int .i64, .int .i64, .int .i64], .int .i64, .int .i64, .int .i64, .int .i64, .sl [.ints 1 .u8], .bytes 32, .int .i64, .int .i64]
theorem commitK_ok : kindsT Pr 10 44 = some commitK := by kernel_rfl
theorem commitK_pat : patArgs Pr [(44, commitK)] cn0 = [commitA] := by kernel_rfl
def bigX : E := .get (.app 19 (.cons (.bin .add .i64 (.bin .add .i64 (.cnt (.var 0)) (.cnt (.var 1))) (.cnt (.var 2))) .nil) (.var 2)) (.lit 0)
def smallC : B := .lt bigX (.lit 3000)
theorem bigN_sum : ∀ (l : List (List Int)) (n : Int), 0 ≤ n → (∀ r ∈ l, r.length ≤ reachBytes) → bigN n l < 3000 → n + (l.flatten.length : Nat) < 3000
  | [], n, h0, _, h => by rw [bigN_nil] at h; simpa using h
  | r :: l, n, h0, hr, h => by
    rw [bigN_cons] at h
    cases hc : ltb n 3000 with
    | false => rw [hc, cond_false] at h; have := ltb_no hc; omega
    | true =>
      rw [hc, cond_true] at h
      have h1 := ltb_ok hc
      have h2 := hr r (by simp)
      have hrb : reachBytes = 140737488351232 := rfl
      have hw : IntKind.i64.wrap (n + (r.length : Nat)) = n + (r.length : Nat) := wrap_id .i64 _ (by show (-9223372036854775808 : Int) ≤ _; omega) (by show _ ≤ (9223372036854775807 : Int); omega)
      rw [hw] at h
      have := bigN_sum l _ (by omega) (fun r hr' => hr r (by simp [hr'])) h
      rw [List.flatten_cons, List.length_append]; omega
structure CommitF (ρ : Env) : Prop where
  a : (ρ.ll 0).length ≤ reachBytes
  b : (ρ.ll 1).length ≤ reachBytes
  c : (ρ.ll 2).length ≤ reachBytes
  r : ∀ r ∈ ρ.ll 2, r.length ≤ reachBytes ∧ ∀ x ∈ r, IntKind.u8.has x
  ra : ∀ r ∈ ρ.ll 0, r.length = 5 ∧ ∀ x ∈ r, IntKind.i64.has x
  rb : ∀ r ∈ ρ.ll 1, r.length = 3 ∧ ∀ x ∈ r, IntKind.i64.has x
  t : (ρ.l 0).length = 32
  tb : ∀ x ∈ ρ.l 0, IntKind.u8.has x
  e : ∀ i, i < 8 → IntKind.i64.has (ρ.e i)
theorem commit_facts {ρ : Env} (h : factArgs [(44, commitK)] cn0 ρ) : CommitF ρ := by
  obtain ⟨⟨f0, f1, ⟨fa, _, fa2, _⟩, ⟨fb, _, fb2, _⟩, f2, f3, f4, f5, ⟨fc, _, _, fc2⟩, ⟨ft, ftb⟩, f6, f7, _⟩, _⟩ := h
  refine ⟨fa, fb, fc, fun r hr => ?_, fun r hr => ?_, fun r hr => ?_, ft, ftb, fun i hi => ?_⟩
  · obtain ⟨i, hi, rfl⟩ := List.getElem_of_mem hr
    obtain ⟨x, t, e, ⟨h1, m, hm, h2⟩, _⟩ := fc2 i hi
    have he : x = (ρ.ll 2)[i] := by
      have : (List.range 1).map (fun q => (ρ.ll (2 + 0 + q)).getD i []) = [(ρ.ll 2)[i]] := by
        simp [List.range_succ, List.getD, List.getElem?_eq_getElem hi]
      rw [show cntS [.ints 1 .u8] = 1 from rfl] at e
      have e' : [(ρ.ll 2)[i]] = x :: t := this.symm.trans e
      cases e'; rfl
    rw [← he]
    exact ⟨by omega, h1⟩
  · obtain ⟨x1, t1, rfl, g1, x2, t2, rfl, g2, x3, t3, rfl, g3, x4, t4, rfl, g4, x5, t5, rfl, g5, e⟩ := fa2 rfl r hr
    have e : t5 = [] := e
    subst e
    exact ⟨rfl, by simp [g1, g2, g3, g4, g5]⟩
  · obtain ⟨x1, t1, rfl, g1, x2, t2, rfl, g2, x3, t3, rfl, g3, e⟩ := fb2 rfl r hr
    have e : t3 = [] := e
    subst e
    exact ⟨rfl, by simp [g1, g2, g3]⟩
  · match i, hi with
    | 0, _ => exact f0
    | 1, _ => exact f1
    | 2, _ => exact f2
    | 3, _ => exact f3
    | 4, _ => exact f4
    | 5, _ => exact f5
    | 6, _ => exact f6
    | 7, _ => exact f7
theorem bigX_den (ρ : Env) : bigX.den ρ = bigN (IntKind.i64.wrap (IntKind.i64.wrap (((ρ.ll 0).length : Nat) + ((ρ.ll 1).length : Nat)) + ((ρ.ll 2).length : Nat))) (ρ.ll 2) := rfl
theorem small_sum {ρ : Env} (h : CommitF ρ) (hs : smallC.den ρ = true) : (ρ.ll 0).length + (ρ.ll 1).length + (ρ.ll 2).length + (ρ.ll 2).flatten.length < 3000 := by
  have h1 := h.a; have h2 := h.b; have h3 := h.c
  have hrb : reachBytes = 140737488351232 := rfl
  have hs : bigX.den ρ < 3000 := ltb_ok hs
  rw [bigX_den] at hs
  have w1 : IntKind.i64.wrap ((((ρ.ll 0).length : Nat) : Int) + ((ρ.ll 1).length : Nat)) = ((ρ.ll 0).length : Nat) + ((ρ.ll 1).length : Nat) := wrap_id .i64 _ (by show (-9223372036854775808 : Int) ≤ _; omega) (by show _ ≤ (9223372036854775807 : Int); omega)
  rw [w1] at hs
  have w2 : IntKind.i64.wrap ((((ρ.ll 0).length : Nat) : Int) + ((ρ.ll 1).length : Nat) + ((ρ.ll 2).length : Nat)) = ((ρ.ll 0).length : Nat) + ((ρ.ll 1).length : Nat) + ((ρ.ll 2).length : Nat) := wrap_id .i64 _ (by show (-9223372036854775808 : Int) ≤ _; omega) (by show _ ≤ (9223372036854775807 : Int); omega)
  rw [w2] at hs
  have := bigN_sum _ _ (by omega) (fun r hr => (h.r r hr).1) hs
  omega
theorem boxesM_len (l : List (List Int)) : (boxesM l).length = 8 * l.length + l.flatten.length := by
  unfold boxesM
  induction l with
  | nil => rfl
  | cons a l ih => rw [List.flatMap_cons, List.length_append, List.length_append, ih, numB_len, List.length_cons, List.flatten_cons, List.length_append]; omega
theorem body_den (ρ : Env) : bodyL.den ρ = numB (ρ.e 0) ++ (numB (ρ.e 1) ++ (numB ((ρ.ll 0).length : Nat) ++ (opsM (ρ.ll 0) ++ (numB ((ρ.ll 1).length : Nat) ++ (votesM (ρ.ll 1) ++ (numB (ρ.e 2) ++ (numB (ρ.e 3) ++ (numB (ρ.e 4) ++ (numB (ρ.e 5) ++ (numB ((ρ.ll 2).length : Nat) ++ boxesM (ρ.ll 2))))))))))) := by
  unfold bodyL
  rw [catL_den]
  simp only [bodyParts, List.flatMap_cons, List.flatMap_nil, numL_den, opsL_den, votesL_den, boxesL_den, List.append_nil]
  rfl
theorem body_len (ρ : Env) : (bodyL.den ρ).length = 72 + 40 * (ρ.ll 0).length + 24 * (ρ.ll 1).length + 8 * (ρ.ll 2).length + (ρ.ll 2).flatten.length := by
  rw [body_den]
  simp only [List.length_append, numB_len, opsM_len, votesM_len, boxesM_len]
  omega
theorem subL_len (l : List Int) (o n : Nat) : (subL l o n).length = n := by simp [subL]
theorem commit_len (ρ : Env) : (commitL.den ρ).length = (bodyL.den ρ).length + 49 := by
  rw [body_len]
  show (1 :: (catL (bodyParts ++ [.sub (.var 0) 0 32, numL (.var 6), numL (.var 7)])).den ρ).length = _
  rw [catL_den, List.flatMap_append, ← catL_den, List.length_cons, List.length_append]
  show ((bodyL.den ρ).length + _) + 1 = _
  rw [body_len]
  simp only [List.flatMap_cons, List.flatMap_nil, numL_den, L.den, List.length_append, subL_len, numB_len, List.length_nil]
/-! rules -/
theorem rule0 {ρ : Env} {b : B} (h : b.den ρ = true) : Rule.Ok ρ ⟨[], b⟩ := fun _ => h
theorem cnt_rule {ρ : Env} {i : Nat} (h : (ρ.ll i).length ≤ reachBytes) : (ltCnt (.var i)).den ρ = true := by
  show ltb ((ρ.ll i).length : Nat) 4611686018427387904 = true
  have hrb : reachBytes = 140737488351232 := rfl
  exact ltT (by omega)
def cntRules : List Rule := [⟨[], ltCnt (.var 0)⟩, ⟨[], ltCnt (.var 1)⟩, ⟨[], ltCnt (.var 2)⟩]
def lenRules : List Rule := cntRules ++ [⟨[(smallC, true)], ltLen bodyL⟩, ⟨[(smallC, true)], ltLen commitL⟩]
theorem cntRules_ok {ρ : Env} (h : CommitF ρ) : ∀ r ∈ cntRules, r.Ok ρ := all_cons (rule0 (cnt_rule h.a)) (all_cons (rule0 (cnt_rule h.b)) (all_cons (rule0 (cnt_rule h.c)) all_nil))
theorem lenRules_ok {ρ : Env} (h : CommitF ρ) : ∀ r ∈ lenRules, r.Ok ρ := by
  have key : ∀ l : L, (l.den ρ).length ≤ (bodyL.den ρ).length + 49 → Rule.Ok ρ ⟨[(smallC, true)], ltLen l⟩ := fun l hl hs => by
    have := small_sum h (hs _ (List.mem_cons_self ..))
    rw [body_len] at hl
    show ltb ((l.den ρ).length : Nat) 1073741824 = true
    exact ltT (by omega)
  exact all_app (cntRules_ok h) (all_cons (key _ (by omega)) (all_cons (key _ (by rw [commit_len]; omega)) all_nil))
/-! WireLong -/
def addE (a b : E) : E := .bin .add .i64 a b
def longN : E := addE (addE (addE (addE (addE (.lit 73) (.bin .mul .i64 (.lit 40) (.cnt (.var 0)))) (.bin .mul .i64 (.lit 24) (.cnt (.var 1)))) (.lit 32)) (.lit 16)) (.len (boxesL (.var 2)))
def longRules : List Rule := lenRules ++ [⟨[(smallC, true)], .eq (.len commitL) longN⟩, ⟨[(smallC, true)], .eq (.len bodyL) (.bin .sub .i64 longN (.lit 49))⟩]
theorem wrapS {x : Int} (h1 : -1000000000 ≤ x) (h2 : x ≤ 1000000000) : IntKind.i64.wrap x = x := wrap_id .i64 _ (by show (-9223372036854775808 : Int) ≤ _; omega) (by show _ ≤ (9223372036854775807 : Int); omega)
theorem longN_den {ρ : Env} (h : CommitF ρ) (hs : smallC.den ρ = true) : longN.den ρ = ((bodyL.den ρ).length : Nat) + 49 := by
  have := small_sum h hs
  show IntKind.i64.wrap (IntKind.i64.wrap (IntKind.i64.wrap (IntKind.i64.wrap (IntKind.i64.wrap (73 + IntKind.i64.wrap (40 * ((ρ.ll 0).length : Nat))) + IntKind.i64.wrap (24 * ((ρ.ll 1).length : Nat))) + 32) + 16) + ((boxesM (ρ.ll 2)).length : Nat)) = _
  rw [body_len, boxesM_len]
  rw [wrapS (x := 40 * ((ρ.ll 0).length : Nat)) (by omega) (by omega), wrapS (x := 24 * ((ρ.ll 1).length : Nat)) (by omega) (by omega)]
  rw [wrapS (x := 73 + 40 * ((ρ.ll 0).length : Nat)) (by omega) (by omega), wrapS (x := 73 + 40 * (((ρ.ll 0).length : Nat) : Int) + 24 * ((ρ.ll 1).length : Nat)) (by omega) (by omega)]
  rw [wrapS (x := 73 + 40 * (((ρ.ll 0).length : Nat) : Int) + 24 * ((ρ.ll 1).length : Nat) + 32) (by omega) (by omega), wrapS (x := 73 + 40 * (((ρ.ll 0).length : Nat) : Int) + 24 * ((ρ.ll 1).length : Nat) + 32 + 16) (by omega) (by omega)]
  rw [wrapS (by omega) (by omega)]
  omega
theorem longRules_ok {ρ : Env} (h : CommitF ρ) : ∀ r ∈ longRules, r.Ok ρ := by
  refine all_app (lenRules_ok h) (all_cons (fun hs => ?_) (all_cons (fun hs => ?_) all_nil))
  · have hs := hs _ (List.mem_cons_self ..)
    show eqb ((commitL.den ρ).length : Nat) (longN.den ρ) = true
    rw [longN_den h hs, commit_len, eqb_eq]; simp
  · have hs := hs _ (List.mem_cons_self ..)
    have := small_sum h hs
    show eqb ((bodyL.den ρ).length : Nat) (IntKind.i64.wrap (longN.den ρ - 49)) = true
    have hb := body_len ρ
    rw [longN_den h hs, wrapS (by omega) (by omega), eqb_eq]
    simp
end Go.Proofs.Ytlghaoohfklpnaa.E
/- Eight bytes as a number: contracts. -/
namespace Go.Proofs.Ytlghaoohfklpnaa.E
open Go Go.RowKit
set_option maxRecDepth 100000
set_option linter.unusedVariables false
def s8 : L := .sub (.var 0) 0 8
def a8 : V := .fs 1 (.ints .u8 s8)
def bytB (l : L) : B := .leq (.byt l) l
def toNumE (l : L) : E := .get (.app 20 l .nil) (.lit 0)
def pairV (e : E) (b : Bool) : V := .tup [.int .i64 e, .bool (.lit b)]
def toNumC (f : FuncId) : Con := ⟨f, [a8], .br (.lt (toNumE s8) (.lit 0)) (.leaf (pairV (.lit 0) false, [bytB s8])) (.leaf (pairV (toNumE s8) true, [bytB s8]))⟩
/-- one part of a result in other words. -/
def V.imp2 (ρ : Env) (v u : V) : Prop := ∀ (β : Bt) (x : Value), β.g.env = ρ → R2 β v x → R2 β u x
theorem V.imp2.refl (ρ : Env) (v : V) : V.imp2 ρ v v := fun _ _ _ h => h
theorem V.imp2.int {ρ : Env} {k : IntKind} {a b : E} (h : a.den ρ = b.den ρ) : V.imp2 ρ (.int k a) (.int k b) := fun β x hβ hr => by
  have hr : F1 (.int k a) β.g x := hr
  show F1 (.int k b) β.g x
  simp only [F1] at hr ⊢
  rw [hr, hβ, h]
theorem V.imp.tup {ρ : Env} {v w v' w' : V} (h : V.imp2 ρ v v') (k : V.imp2 ρ w w') : V.imp ρ (.tup [v, w]) (.tup [v', w']) := fun β x hβ hR => by
  obtain ⟨xs, e, hF⟩ := hR
  refine ⟨xs, e, ?_⟩
  match hx : xs.toList, hF with
  | [], hF => exact hF.elim
  | [_], hF => exact hF.2.elim
  | a :: b :: l, hF => exact ⟨h β a hβ hF.1, k β b hβ hF.2.1, hF.2.2⟩
theorem wrapWrap (x c : Int) : IntKind.i64.wrap (IntKind.i64.wrap x * 256 + c) = IntKind.i64.wrap (x * 256 + c) := by
  have h1 := wrap64I x
  have h2 := wrap64I (IntKind.i64.wrap x * 256 + c)
  have h3 := wrap64I (x * 256 + c)
  omega
theorem wrapNat {x : Int} {m : Nat} (h : (m : Int) % 18446744073709551616 = x % 18446744073709551616) : IntKind.i64.wrap (m : Int) = IntKind.i64.wrap x := by
  have h1 := wrap64I x
  have h2 := wrap64I (m : Int)
  omega
theorem orShl {n c : Int} (h0 : 0 ≤ c) (h1 : c ≤ 255) : binI .or .i64 (binI .shl .i64 n 8) c = IntKind.i64.wrap (n * 256 + c) := by
  show IntKind.i64.wrap ((BitVec.ofInt 64 (IntKind.i64.wrap (n * 256)) ||| BitVec.ofInt 64 c).toNat : Int) = _
  apply wrapNat
  rw [BitVec.toNat_or, BitVec.toNat_ofInt, BitVec.toNat_ofInt]
  have hw := wrap64I (n * 256)
  obtain ⟨k, hk⟩ : ∃ k : Nat, (n * 256) % 18446744073709551616 = 256 * (k : Int) := ⟨((n % 72057594037927936)).toNat, by omega⟩
  have ek : ((IntKind.i64.wrap (n * 256)) % ((2 ^ 64 : Nat) : Int)).toNat = k <<< 8 := by
    have : ((2 ^ 64 : Nat) : Int) = 18446744073709551616 := by decide
    rw [this, Nat.shiftLeft_eq]; omega
  obtain ⟨d, rfl⟩ : ∃ d : Nat, c = d := ⟨c.toNat, by omega⟩
  have ed : (((d : Nat) : Int) % ((2 ^ 64 : Nat) : Int)).toNat = d := by
    have : ((2 ^ 64 : Nat) : Int) = 18446744073709551616 := by decide
    rw [this]; omega
  rw [ek, ed, ← Nat.shiftLeft_add_eq_or_of_lt (by omega : d < 2 ^ 8), Nat.shiftLeft_eq]
  omega
theorem byt_eq {l : List Int} (h : Byts l) : l.map byte = l := by
  conv => rhs; rw [← List.map_id l]
  exact List.map_congr_left fun c hc => by
    have := h c hc
    show ((UInt8.ofNat c.toNat).toNat : Int) = c
    rw [UInt8.toNat_ofNat']
    omega
theorem Byts.of {l : List Int} (h : eqL (l.map byte) l = true) : Byts l := by
  have e : l.map byte = l := of_decide_eq_true h
  intro c hc
  rw [← e] at hc
  obtain ⟨x, _, rfl⟩ := List.mem_map.1 hc
  have : (UInt8.ofNat x.toNat).toNat < 256 := UInt8.toNat_lt _
  show 0 ≤ ((UInt8.ofNat x.toNat).toNat : Int) ∧ ((UInt8.ofNat x.toNat).toNat : Int) ≤ 255
  omega
theorem bytB_den {ρ : Env} {l : L} : (bytB l).den ρ = true ↔ Byts (l.den ρ) := by
  constructor
  · exact Byts.of
  · intro h
    show decide ((l.den ρ).map byte = l.den ρ) = true
    rw [byt_eq h]; simp
def cv (i : Nat) : E := .conv .i64 (.get (.var 0) (.lit (.ofNat i)))
def so (a : E) (i : Nat) : E := .bin .or .i64 (.bin .shl .i64 a (.lit 8)) (cv i)
def nestE : E := so (so (so (so (so (so (so (.bin .or .i64 (.lit 0) (cv 0)) 1) 2) 3) 4) 5) 6) 7
theorem toNumE_den (ρ : Env) (l : L) : (toNumE l).den ρ = toNumI (l.den ρ) := by
  show IntKind.i64.wrap (toNumI (l.den ρ)) = _
  exact wrap_wrap _ _
theorem s8_den (ρ : Env) : s8.den ρ = [(ρ.l 0).getD 0 0, (ρ.l 0).getD 1 0, (ρ.l 0).getD 2 0, (ρ.l 0).getD 3 0, (ρ.l 0).getD 4 0, (ρ.l 0).getD 5 0, (ρ.l 0).getD 6 0, (ρ.l 0).getD 7 0] := by
  simp [s8, L.den, subL, List.range_succ]
theorem cv_den {ρ : Env} {i : Nat} (h : 0 ≤ (ρ.l 0).getD i 0 ∧ (ρ.l 0).getD i 0 ≤ 255) : (cv i).den ρ = (ρ.l 0).getD i 0 := by
  show IntKind.i64.wrap ((ρ.l 0).getD i 0) = _
  exact wrap_id .i64 _ (by show (-9223372036854775808 : Int) ≤ _; omega) (by show _ ≤ (9223372036854775807 : Int); omega)
theorem so_den {ρ : Env} {a : E} {i : Nat} {x : Int} (h : 0 ≤ (ρ.l 0).getD i 0 ∧ (ρ.l 0).getD i 0 ≤ 255) (ha : a.den ρ = IntKind.i64.wrap x) : (so a i).den ρ = IntKind.i64.wrap (x * 256 + (ρ.l 0).getD i 0) := by
  show binI .or .i64 (binI .shl .i64 (a.den ρ) 8) ((cv i).den ρ) = _
  rw [cv_den h, orShl h.1 h.2, ha, wrapWrap]
theorem nest_den {ρ : Env} (h : Byts (s8.den ρ)) : nestE.den ρ = toNumI (s8.den ρ) := by
  rw [s8_den] at h ⊢
  have b : ∀ i, i < 8 → 0 ≤ (ρ.l 0).getD i 0 ∧ (ρ.l 0).getD i 0 ≤ 255 := fun i hi => by
    match i, hi with
    | 0, _ => exact h _ (by simp)
    | 1, _ => exact h _ (by simp)
    | 2, _ => exact h _ (by simp)
    | 3, _ => exact h _ (by simp)
    | 4, _ => exact h _ (by simp)
    | 5, _ => exact h _ (by simp)
    | 6, _ => exact h _ (by simp)
    | 7, _ => exact h _ (by simp)
  have h0 : (E.bin .or .i64 (.lit 0) (cv 0)).den ρ = IntKind.i64.wrap ((0 : Int) * 256 + (ρ.l 0).getD 0 0) := by
    show binI .or .i64 0 ((cv 0).den ρ) = _
    have e : (0 : Int) = binI .shl .i64 0 8 := by decide
    rw [cv_den (b 0 (by omega))]
    conv => lhs; rw [e]
    exact orShl (b 0 (by omega)).1 (b 0 (by omega)).2
  exact so_den (b 7 (by omega)) (so_den (b 6 (by omega)) (so_den (b 5 (by omega)) (so_den (b 4 (by omega)) (so_den (b 3 (by omega)) (so_den (b 2 (by omega)) (so_den (b 1 (by omega)) h0))))))
theorem toNum_sign {ρ : Env} (h : Byts (s8.den ρ)) : ltb ((ρ.l 0).getD 0 0) 128 = !ltb (toNumI (s8.den ρ)) 0 := by
  rw [s8_den] at h ⊢
  have b0 := h ((ρ.l 0).getD 0 0) (by simp); have b1 := h ((ρ.l 0).getD 1 0) (by simp); have b2 := h ((ρ.l 0).getD 2 0) (by simp); have b3 := h ((ρ.l 0).getD 3 0) (by simp)
  have b4 := h ((ρ.l 0).getD 4 0) (by simp); have b5 := h ((ρ.l 0).getD 5 0) (by simp); have b6 := h ((ρ.l 0).getD 6 0) (by simp); have b7 := h ((ρ.l 0).getD 7 0) (by simp)
  rw [ltb_eq, ltb_eq]
  generalize (ρ.l 0).getD 0 0 = c0 at *; generalize (ρ.l 0).getD 1 0 = c1 at *; generalize (ρ.l 0).getD 2 0 = c2 at *; generalize (ρ.l 0).getD 3 0 = c3 at *
  generalize (ρ.l 0).getD 4 0 = c4 at *; generalize (ρ.l 0).getD 5 0 = c5 at *; generalize (ρ.l 0).getD 6 0 = c6 at *; generalize (ρ.l 0).getD 7 0 = c7 at *
  have hs : toNumI [c0, c1, c2, c3, c4, c5, c6, c7] < 0 ↔ ¬ c0 < 128 := by
    have hw := wrap64I ((((((((0 * 256 + c0) * 256 + c1) * 256 + c2) * 256 + c3) * 256 + c4) * 256 + c5) * 256 + c6) * 256 + c7)
    show IntKind.i64.wrap ((((((((0 * 256 + c0) * 256 + c1) * 256 + c2) * 256 + c3) * 256 + c4) * 256 + c5) * 256 + c6) * 256 + c7) < 0 ↔ _
    omega
  by_cases hc : c0 < 128
  · rw [decide_eq_true hc, decide_eq_false (by rw [hs]; simpa using hc)]; rfl
  · rw [decide_eq_false hc, decide_eq_true (hs.2 hc)]; rfl
theorem toNumC_pick {ρ : Env} {f : FuncId} {r' : V} {bs' : List B} (hp : (toNumC f).t.pick ρ = some (r', bs')) (hok : okOk ρ bs') : Byts (s8.den ρ) ∧ r' = (bif ltb (toNumI (s8.den ρ)) 0 then pairV (.lit 0) false else pairV (toNumE s8) true) := by
  simp only [toNumC, T.pick, B.den] at hp
  rw [toNumE_den] at hp
  have e0 : (E.lit 0).den ρ = 0 := rfl
  rw [e0] at hp
  cases hc : ltb (toNumI (s8.den ρ)) 0 with
  | true => rw [hc] at hp; cases hp; exact ⟨bytB_den.1 (hok _ (List.mem_cons_self ..)), rfl⟩
  | false => rw [hc] at hp; cases hp; exact ⟨bytB_den.1 (hok _ (List.mem_cons_self ..)), rfl⟩
theorem toNum1_ok : ConOk Pr (toNumC 102) := by
  have h : ConOk Pr ⟨102, [a8], .br (.lt nestE (.lit 0)) (.leaf (pairV (.lit 0) false, [])) (.leaf (pairV nestE true, []))⟩ := Con.ofExec hm cf0_ok (fuel := 100) (depth := 10) rfl (by kernel_rfl)
  refine Con.alt h fun ρ r' bs' hp hok => ?_
  obtain ⟨hb, rfl⟩ := toNumC_pick (f := 0) hp hok
  have e := nest_den hb
  simp only [T.pick, B.den, e]
  rw [show (E.lit 0).den ρ = 0 from rfl]
  cases hc : ltb (toNumI (s8.den ρ)) 0 with
  | true => exact ⟨_, _, rfl, fun _ h => (by cases h), V.imp.refl _ _⟩
  | false => exact ⟨_, _, rfl, fun _ h => (by cases h), V.imp.tup (V.imp2.int (by rw [e, toNumE_den])) (V.imp2.refl _ _)⟩
theorem toNum2_ok : ConOk Pr (toNumC 115) := by
  have h : ConOk Pr ⟨115, [a8], .br (.lt (.get (.var 0) (.lit 0)) (.lit 128)) (.leaf (pairV nestE true, [])) (.leaf (pairV (.lit 0) false, []))⟩ := Con.ofExec hm cf0_ok (fuel := 100) (depth := 10) rfl (by kernel_rfl)
  refine Con.alt h fun ρ r' bs' hp hok => ?_
  obtain ⟨hb, rfl⟩ := toNumC_pick (f := 0) hp hok
  have e := nest_den hb
  simp only [T.pick, B.den]
  rw [show (E.get (.var 0) (.lit 0)).den ρ = (ρ.l 0).getD 0 0 from rfl, show (E.lit 128).den ρ = 128 from rfl, toNum_sign hb]
  cases hc : ltb (toNumI (s8.den ρ)) 0 with
  | true => exact ⟨_, _, rfl, fun _ h => (by cases h), V.imp.refl _ _⟩
  | false => exact ⟨_, _, rfl, fun _ h => (by cases h), V.imp.tup (V.imp2.int (by rw [e, toNumE_den])) (V.imp2.refl _ _)⟩
end Go.Proofs.Ytlghaoohfklpnaa.E
/- Numbers read, one after the other: contracts. -/
namespace Go.Proofs.Ytlghaoohfklpnaa.E
open Go Go.RowKit
set_option maxRecDepth 100000
set_option linter.unusedVariables false
def rdOb (ty : TypeId) (b : B) (l : L) : List (Nat × Ob) := [(0, ⟨.any [.fs 1 (.ints .u8 l), .bool b], true, ty⟩)]
noncomputable def cfR : Cf := ⟨tabC [toNumC 102, toNumC 115], lpC [], noMg⟩
theorem cfR_ok : CfOk Pr cfR := cfOk_mk (all_cons toNum1_ok (all_cons toNum2_ok all_nil)) all_nil
def argL (m : E) (b : B) (l : L) : L := .cons m (.cons (.ofB b) l)
def nvE (m : E) (b : B) (l : L) : E := .get (.app 21 (argL m b l) .nil) (.lit 0)
def nbB (m : E) (b : B) (l : L) : B := .eq (.get (.app 22 (argL m b l) .nil) (.lit 0)) (.lit 1)
def nrL (m : E) (b : B) (l : L) : L := .app 23 (argL m b l) .nil
theorem rdOf_b (b : Bool) (l : List Int) : rdOf (b2i b) l = (b, l) := by cases b <;> rfl
theorem fl_eq (b : Bool) : eqb (fl b) 1 = b := by cases b <;> rfl
theorem toNumI_has (l : List Int) : IntKind.i64.wrap (toNumI l) = toNumI l := wrap_wrap _ _
theorem rrN_f (m : Int) (l : List Int) : rrN m (false, l) = if l.length < 8 then (0, true, l) else if toNumI (l.take 8) < 0 ∨ m < toNumI (l.take 8) then (0, true, l.drop 8) else (toNumI (l.take 8), false, l.drop 8) := rfl
theorem rrN_wrap (m : Int) (s : Rd) : IntKind.i64.wrap (rrN m s).1 = (rrN m s).1 := by
  obtain ⟨b, l⟩ := s
  cases b with
  | true => rfl
  | false =>
    rw [rrN_f]
    by_cases h1 : l.length < 8
    · rw [if_pos h1]; rfl
    · rw [if_neg h1]
      by_cases h2 : toNumI (l.take 8) < 0 ∨ m < toNumI (l.take 8)
      · rw [if_pos h2]; rfl
      · rw [if_neg h2]; exact toNumI_has _
theorem nv_den (ρ : Env) (m : E) (b : B) (l : L) : (nvE m b l).den ρ = (rrN (m.den ρ) (b.den ρ, l.den ρ)).1 := by
  show IntKind.i64.wrap (rrN (m.den ρ) (rdOf (b2i (b.den ρ)) (l.den ρ))).1 = _
  rw [rdOf_b, rrN_wrap]
theorem nb_den (ρ : Env) (m : E) (b : B) (l : L) : (nbB m b l).den ρ = (rrN (m.den ρ) (b.den ρ, l.den ρ)).2.1 := by
  show eqb (fl (rrN (m.den ρ) (rdOf (b2i (b.den ρ)) (l.den ρ))).2.1) 1 = _
  rw [rdOf_b, fl_eq]
theorem nr_den (ρ : Env) (m : E) (b : B) (l : L) : (nrL m b l).den ρ = (rrN (m.den ρ) (b.den ρ, l.den ρ)).2.2 := by
  show (rrN (m.den ρ) (rdOf (b2i (b.den ρ)) (l.den ρ))).2.2 = _
  rw [rdOf_b]
def numF (f : FuncId) (ty : TypeId) (args : List V) (m : E) : FCon := ⟨f, args, 1, rdOb ty (.var 0) (.var 0), .leaf ⟨.int .i64 (nvE m (.var 0) (.var 0)), 1, rdOb ty (nbB m (.var 0) (.var 0)) (nrL m (.var 0) (.var 0)), [bytB (.var 0)]⟩⟩
theorem Row.imp.rd {ρ : Env} {b b' : B} {l l' : L} (hb : b.den ρ = b'.den ρ) (hl : l.den ρ = l'.den ρ) : Row.imp ρ (.any [.fs 1 (.ints .u8 l), .bool b]) (.any [.fs 1 (.ints .u8 l'), .bool b']) := fun β xs hβ h => by
  have h : F2 (R1 β) [.fs 1 (.ints .u8 l), .bool b] xs := h
  show F2 (R1 β) _ xs
  match xs, h with
  | [x, y], h =>
    refine ⟨?_, ?_, trivial⟩
    · have h1 : F1 (.fs 1 (.ints .u8 l)) β.g x := h.1
      show F1 (.fs 1 (.ints .u8 l')) β.g x
      exact F1.ints_at rfl (by rw [hβ, hl]) h1
    · have h1 : F1 (.bool b) β.g y := h.2.1
      show F1 (.bool b') β.g y
      simp only [F1] at h1 ⊢
      rw [h1, hβ, hb]
  | [], h => exact h.elim
  | [_], h => exact h.2.elim
  | _ :: _ :: _ :: _, h => exact h.2.2.elim
theorem rdOb_imp {ρ : Env} {ty : TypeId} {b b' : B} {l l' : L} (hb : b.den ρ = b'.den ρ) (hl : l.den ρ = l'.den ρ) : Sto.imp ρ (obOf (rdOb ty b l)).get (obOf (rdOb ty b' l')).get :=
  ImpOb.ok ⟨⟨rfl, rfl, rfl⟩, Row.imp.rd hb hl, trivial⟩
def rest8 : L := .cut (.var 0) (.lit 8) (.len (.var 0))
theorem rest8_den (ρ : Env) : rest8.den ρ = (ρ.l 0).drop 8 := by
  show ((ρ.l 0).take ((((ρ.l 0).length : Nat) : Int)).toNat).drop 8 = _
  rw [Int.toNat_natCast, List.take_length]
theorem s8_take {ρ : Env} (h : 8 ≤ (ρ.l 0).length) : s8.den ρ = (ρ.l 0).take 8 := by
  show subL (ρ.l 0) 0 8 = _
  apply List.ext_getElem?
  intro i
  by_cases hi : i < 8
  · simp [subL, hi, List.getD, show i < (ρ.l 0).length by omega]
  · simp [subL, hi, List.getElem?_take]
theorem Byts.take {l : List Int} (h : Byts l) (n : Nat) : Byts (l.take n) := fun c hc => h c (List.mem_of_mem_take hc)
theorem Byts.drop {l : List Int} (h : Byts l) (n : Nat) : Byts (l.drop n) := fun c hc => h c (List.mem_of_mem_drop hc)
/-- the ways of a number: bad already; too short; not a number; too great; good. -/
def numT (ty : TypeId) (m : Option E) (b1 : B) : T FRes :=
  let bd (l : L) (ok : List B) : T FRes := .leaf ⟨.int .i64 (.lit 0), 1, rdOb ty (.lit true) l, ok⟩
  let gd : T FRes := .leaf ⟨.int .i64 (toNumE s8), 1, rdOb ty b1 rest8, [bytB s8]⟩
  .br (.var 0) (bd (.var 0) []) (.br (.lt (.len (.var 0)) (.lit 8)) (bd (.var 0) []) (.br (.lt (toNumE s8) (.lit 0)) (bd rest8 [bytB s8]) (match m with
    | some m => .br (.lt m (toNumE s8)) (bd rest8 [bytB s8]) gd
    | none => gd)))
theorem numF_of {f : FuncId} {ty : TypeId} {args : List V} {m : E} {mo : Option E} {b1 : B} (h : FConOk Pr ⟨f, args, 1, rdOb ty (.var 0) (.var 0), numT ty mo b1⟩) (hm : ∀ ρ : Env, match mo with | some m' => m'.den ρ = m.den ρ | none => m.den ρ = 9223372036854775807)
    (hb1 : ∀ ρ : Env, ρ.b 0 = false → b1.den ρ = false) : FConOk Pr (numF f ty args m) := by
  refine FCon.alt h fun ρ q' hp hok => ?_
  cases hp
  have hbyt : Byts (ρ.l 0) := bytB_den.1 (hok _ (List.mem_cons_self ..))
  have d1 := nv_den ρ m (.var 0) (.var 0)
  have d2 := nb_den ρ m (.var 0) (.var 0)
  have d3 := nr_den ρ m (.var 0) (.var 0)
  rw [show (B.var 0).den ρ = ρ.b 0 from rfl, show (L.var 0).den ρ = ρ.l 0 from rfl] at d1 d2 d3
  simp only [numT, T.pick]
  rw [show (B.var 0).den ρ = ρ.b 0 from rfl]
  have fin : ∀ (e : E) (b : B) (l : L) (ok : List B), okOk ρ ok → e.den ρ = (rrN (m.den ρ) (ρ.b 0, ρ.l 0)).1 → b.den ρ = (rrN (m.den ρ) (ρ.b 0, ρ.l 0)).2.1 → l.den ρ = (rrN (m.den ρ) (ρ.b 0, ρ.l 0)).2.2 →
      okOk ρ ok ∧ V.imp ρ (.int .i64 e) (.int .i64 (nvE m (.var 0) (.var 0))) ∧ (1 : Nat) = 1 ∧ Sto.imp ρ (obOf (rdOb ty b l)).get (obOf (rdOb ty (nbB m (.var 0) (.var 0)) (nrL m (.var 0) (.var 0)))).get :=
    fun e b l ok h0 h1 h2 h3 => ⟨h0, V.imp.int (by rw [h1, d1]), rfl, rdOb_imp (by rw [h2, d2]) (by rw [h3, d3])⟩
  have no : okOk ρ [] := fun b hb => by cases hb
  cases hb : ρ.b 0 with
  | true =>
    rw [hb] at fin
    exact ⟨_, rfl, fin _ _ _ _ no rfl rfl rfl⟩
  | false =>
    rw [hb] at fin
    rw [cond_false]
    have hl : (B.lt (.len (.var 0)) (.lit 8)).den ρ = decide ((ρ.l 0).length < 8) := by
      show ltb ((ρ.l 0).length : Nat) 8 = _
      rw [ltb_eq]; simp; omega
    rw [hl]
    by_cases hlt : (ρ.l 0).length < 8
    · rw [decide_eq_true hlt, cond_true]
      have e : rrN (m.den ρ) (false, ρ.l 0) = (0, true, ρ.l 0) := by rw [rrN_f, if_pos hlt]
      rw [e] at fin
      exact ⟨_, rfl, fin _ _ _ _ no rfl rfl rfl⟩
    · rw [decide_eq_false hlt, cond_false]
      have hs := s8_take (ρ := ρ) (by omega)
      have bs : okOk ρ [bytB s8] := fun b hb => by
        simp only [List.mem_cons, List.not_mem_nil, or_false] at hb
        subst hb
        exact bytB_den.2 (by rw [hs]; exact hbyt.take 8)
      have hv : (B.lt (toNumE s8) (.lit 0)).den ρ = decide (toNumI ((ρ.l 0).take 8) < 0) := by
        show ltb ((toNumE s8).den ρ) 0 = _
        rw [toNumE_den, hs, ltb_eq]
      rw [hv]
      have e0 : rrN (m.den ρ) (false, ρ.l 0) = if toNumI ((ρ.l 0).take 8) < 0 ∨ m.den ρ < toNumI ((ρ.l 0).take 8) then (0, true, (ρ.l 0).drop 8) else (toNumI ((ρ.l 0).take 8), false, (ρ.l 0).drop 8) := by
        rw [rrN_f, if_neg hlt]
      by_cases hneg : toNumI ((ρ.l 0).take 8) < 0
      · rw [decide_eq_true hneg, cond_true]
        rw [e0, if_pos (.inl hneg)] at fin
        exact ⟨_, rfl, fin _ _ _ _ bs rfl rfl (rest8_den ρ)⟩
      · rw [decide_eq_false hneg, cond_false]
        have hm' := hm ρ
        cases mo with
        | none =>
          simp only at hm'
          have hle : ¬ (m.den ρ < toNumI ((ρ.l 0).take 8)) := by
            have := (wrap_rg .i64 (wordI ((ρ.l 0).take 8))).2
            have : toNumI ((ρ.l 0).take 8) ≤ 9223372036854775807 := this
            omega
          rw [e0, if_neg (by simp [hneg, hle])] at fin
          exact ⟨_, rfl, fin _ _ _ _ bs (by rw [toNumE_den, hs]) (hb1 ρ hb) (rest8_den ρ)⟩
        | some m2 =>
          simp only at hm'
          simp only [T.pick]
          have hg : (B.lt m2 (toNumE s8)).den ρ = decide (m.den ρ < toNumI ((ρ.l 0).take 8)) := by
            show ltb (m2.den ρ) ((toNumE s8).den ρ) = _
            rw [toNumE_den, hs, ltb_eq, hm']
          rw [hg]
          by_cases hgt : m.den ρ < toNumI ((ρ.l 0).take 8)
          · rw [decide_eq_true hgt, cond_true]
            rw [e0, if_pos (.inr hgt)] at fin
            exact ⟨_, rfl, fin _ _ _ _ bs rfl rfl (rest8_den ρ)⟩
          · rw [decide_eq_false hgt, cond_false]
            rw [e0, if_neg (by simp [hneg, hgt])] at fin
            exact ⟨_, rfl, fin _ _ _ _ bs (by rw [toNumE_den, hs]) (hb1 ρ hb) (rest8_den ρ)⟩
def num1F : FCon := numF 53 97 [.ptr 0 (.lit 0) 0 0, ival 0] (.var 0)
def num2F : FCon := numF 77 135 [.ptr 0 (.lit 0) 0 0] (.lit 9223372036854775807)
theorem num1F_ok : FConOk Pr num1F := numF_of (mo := some (.var 0)) (b1 := .var 0) (FCon.ofExecS hm cfR_ok (fuel := 100) (depth := 12) (by kernel_rfl)) (fun _ => rfl) (fun ρ h => h)
theorem num2F_ok : FConOk Pr num2F := numF_of (mo := none) (b1 := .lit false) (FCon.ofExecS hm cfR_ok (fuel := 100) (depth := 12) (by kernel_rfl)) (fun _ => rfl) (fun ρ h => rfl)
def cloneC : Con := ⟨103, [.fs 1 (.ints .u8 (.var 0))], .leaf (.fs 1 (.ints .u8 (.var 0)), [ltLen (.var 0)])⟩
theorem clone_ok : ConOk Pr cloneC := Con.clone hm cf0_ok (fuel := 100) (fuel' := 100) (depth := 10) (by kernel_rfl) (by kernel_rfl)
end Go.Proofs.Ytlghaoohfklpnaa.E
/- Records of numbers read: contracts. -/
namespace Go.Proofs.Ytlghaoohfklpnaa.E
open Go Go.RowKit
set_option maxRecDepth 100000
set_option linter.unusedVariables false
noncomputable def cfRJ : Cf := ⟨tabF [num1F, num2F] (tabC []), lpC [], noMg⟩
theorem cfRJ_ok : CfOk Pr cfRJ := ⟨fun ρ => tabF_ok (tabC_ok all_nil) (all_cons num1F_ok (all_cons num2F_ok all_nil)), fun ρ => lpC_ok all_nil⟩
def stB : List Int → B → L → B × L
  | [], b, l => (b, l)
  | m :: ms, b, l => stB ms (nbB (.lit m) b l) (nrL (.lit m) b l)
def vsE : List Int → B → L → List E
  | [], _, _ => []
  | m :: ms, b, l => nvE (.lit m) b l :: vsE ms (nbB (.lit m) b l) (nrL (.lit m) b l)
def okS : List Int → B → L → List B
  | [], _, _ => []
  | m :: ms, b, l => okS ms (nbB (.lit m) b l) (nrL (.lit m) b l) ++ [bytB l]
theorem vsE_den (ρ : Env) : ∀ (ms : List Int) (b : B) (l : L), (vsE ms b l).map (E.den ρ) = (rrRow ms (b.den ρ, l.den ρ)).1
  | [], b, l => rfl
  | m :: ms, b, l => by
    simp only [vsE, List.map_cons, vsE_den ρ ms, nv_den, nb_den, nr_den, rrRow]
    rfl
theorem stB_den (ρ : Env) : ∀ (ms : List Int) (b : B) (l : L), (stB ms b l).1.den ρ = (rrRow ms (b.den ρ, l.den ρ)).2.1 ∧ (stB ms b l).2.den ρ = (rrRow ms (b.den ρ, l.den ρ)).2.2
  | [], b, l => ⟨rfl, rfl⟩
  | m :: ms, b, l => by
    have h := stB_den ρ ms (nbB (.lit m) b l) (nrL (.lit m) b l)
    rw [nb_den, nr_den] at h
    exact h
theorem rrN_byts {m : Int} {b : Bool} {l : List Int} (h : Byts l) : Byts (rrN m (b, l)).2.2 := by
  cases b with
  | true => exact h
  | false =>
    rw [rrN_f]
    by_cases h1 : l.length < 8
    · rw [if_pos h1]; exact h
    · rw [if_neg h1]
      by_cases h2 : toNumI (l.take 8) < 0 ∨ m < toNumI (l.take 8)
      · rw [if_pos h2]; exact h.drop 8
      · rw [if_neg h2]; exact h.drop 8
theorem okS_den {ρ : Env} : ∀ (ms : List Int) (b : B) (l : L), Byts (l.den ρ) → okOk ρ (okS ms b l)
  | [], b, l, _ => fun c hc => by cases hc
  | m :: ms, b, l, h => fun c hc => by
    unfold okS at hc
    rcases List.mem_append.1 hc with hc | hc
    · exact okS_den ms _ _ (by rw [nr_den]; exact rrN_byts h) c hc
    · simp only [List.mem_cons, List.not_mem_nil, or_false] at hc
      subst hc; exact bytB_den.2 h
def argR (b : B) (l : L) : L := .cons (.ofB b) l
def msL (ms : List Int) : LL := .cons (consL (ms.map E.lit)) .nil
def rvE (ms : List Int) (b : B) (l : L) : List E := (List.range ms.length).map fun i => .get (.app 30 (argR b l) (msL ms)) (.lit (.ofNat i))
def rbB (ms : List Int) (b : B) (l : L) : B := .eq (.get (.app 31 (argR b l) (msL ms)) (.lit 0)) (.lit 1)
def rrL (ms : List Int) (b : B) (l : L) : L := .app 32 (argR b l) (msL ms)
theorem msL_den (ρ : Env) (ms : List Int) : (msL ms).den ρ = [ms] := by
  show [(consL (ms.map E.lit)).den ρ] = _
  rw [consL_den, List.map_map]
  congr 1
  conv => rhs; rw [← List.map_id ms]
  exact List.map_congr_left fun _ _ => rfl
theorem rrRow_wrap : ∀ (ms : List Int) (s : Rd), (rrRow ms s).1.map IntKind.i64.wrap = (rrRow ms s).1
  | [], s => rfl
  | m :: ms, s => by simp only [rrRow, List.map_cons, rrN_wrap, rrRow_wrap ms]
theorem rrRow_len : ∀ (ms : List Int) (s : Rd), (rrRow ms s).1.length = ms.length
  | [], s => rfl
  | m :: ms, s => by simp only [rrRow, List.length_cons, rrRow_len ms]
theorem rvE_den (ρ : Env) (ms : List Int) (b : B) (l : L) : (rvE ms b l).map (E.den ρ) = (rrRow ms (b.den ρ, l.den ρ)).1 := by
  have e : (L.app 30 (argR b l) (msL ms)).den ρ = (rrRow ms (b.den ρ, l.den ρ)).1 := by
    show ((rrRow (((msL ms).den ρ).getD 0 []) (rdOf (b2i (b.den ρ)) (l.den ρ))).1).map IntKind.i64.wrap = _
    rw [msL_den, rdOf_b, rrRow_wrap]; rfl
  unfold rvE
  rw [List.map_map]
  conv => rhs; rw [← range_getD (d := (0 : Int)) (rrRow ms (b.den ρ, l.den ρ)).1 ms.length (rrRow_len _ _)]
  exact List.map_congr_left fun i _ => by
    show ((L.app 30 (argR b l) (msL ms)).den ρ).getD ((i : Int)).toNat 0 = _
    rw [e, Int.toNat_natCast]
theorem rb_den (ρ : Env) (ms : List Int) (b : B) (l : L) : (rbB ms b l).den ρ = (rrRow ms (b.den ρ, l.den ρ)).2.1 := by
  show eqb (fl (rrRow (((msL ms).den ρ).getD 0 []) (rdOf (b2i (b.den ρ)) (l.den ρ))).2.1) 1 = _
  rw [msL_den, rdOf_b, fl_eq]; rfl
theorem rr_den (ρ : Env) (ms : List Int) (b : B) (l : L) : (rrL ms b l).den ρ = (rrRow ms (b.den ρ, l.den ρ)).2.2 := by
  show (rrRow (((msL ms).den ρ).getD 0 []) (rdOf (b2i (b.den ρ)) (l.den ρ))).2.2 = _
  rw [msL_den, rdOf_b]; rfl
def rowRF (f : FuncId) (ty : TypeId) (ms : List Int) : FCon := ⟨f, [.ptr 0 (.lit 0) 0 0], 1, rdOb ty (.var 0) (.var 0), .leaf ⟨.agg ((rvE ms (.var 0) (.var 0)).map (V.int .i64)), 1, rdOb ty (rbB ms (.var 0) (.var 0)) (rrL ms (.var 0) (.var 0)), [bytB (.var 0)]⟩⟩
def rowR0 (f : FuncId) (ty : TypeId) (ms : List Int) : FCon := ⟨f, [.ptr 0 (.lit 0) 0 0], 1, rdOb ty (.var 0) (.var 0), .leaf ⟨.agg ((vsE ms (.var 0) (.var 0)).map (V.int .i64)), 1, rdOb ty (stB ms (.var 0) (.var 0)).1 (stB ms (.var 0) (.var 0)).2, okS ms (.var 0) (.var 0)⟩⟩
theorem rowRF_of {f : FuncId} {ty : TypeId} {ms : List Int} (h : FConOk Pr (rowR0 f ty ms)) : FConOk Pr (rowRF f ty ms) := by
  refine FCon.alt h fun ρ q' hp hok => ?_
  cases hp
  have hbyt : Byts (ρ.l 0) := bytB_den.1 (hok _ (List.mem_cons_self ..))
  refine ⟨_, rfl, okS_den ms _ _ hbyt, V.imp.ints (by rw [vsE_den, rvE_den]), rfl, rdOb_imp (by rw [(stB_den ρ ms _ _).1, rb_den]) (by rw [(stB_den ρ ms _ _).2, rr_den])⟩
def op1F : FCon := rowRF 54 97 opM
def sig1F : FCon := rowRF 55 97 sigM
def op2F : FCon := rowRF 78 135 (anyM 5)
def sig2F : FCon := rowRF 79 135 (anyM 2)
theorem op1F_ok : FConOk Pr op1F := rowRF_of (FCon.ofExecS hm cfRJ_ok (fuel := 100) (depth := 12) (by kernel_rfl))
theorem sig1F_ok : FConOk Pr sig1F := rowRF_of (FCon.ofExecS hm cfRJ_ok (fuel := 100) (depth := 12) (by kernel_rfl))
theorem op2F_ok : FConOk Pr op2F := rowRF_of (FCon.ofExecS hm cfRJ_ok (fuel := 100) (depth := 12) (by kernel_rfl))
theorem sig2F_ok : FConOk Pr sig2F := rowRF_of (FCon.ofExecS hm cfRJ_ok (fuel := 100) (depth := 12) (by kernel_rfl))
end Go.Proofs.Ytlghaoohfklpnaa.E
/- A reader's state in one row: contracts. -/
namespace Go.Proofs.Ytlghaoohfklpnaa.E
open Go Go.RowKit
set_option maxRecDepth 100000
set_option linter.unusedVariables false
def sS : Sub := ⟨[.var 0], [tlL (.var 0)], [], [hdB (.var 0)], .ix⟩
theorem toS {f : FuncId} {ty : TypeId} {args args' : List V} {r r' : V} {b : B} {l S' : L} {oks : List B} (h : FConOk Pr ⟨f, args, 1, rdOb ty (.var 0) (.var 0), .leaf ⟨r, 1, rdOb ty b l, oks⟩⟩) (ha : V.subs args sS = args')
    (hr : ∀ ρ : Env, V.imp ρ (r.sub sS) r') (hst : ∀ ρ : Env, stS (b.den (ρ.sub sS), l.den (ρ.sub sS)) = S'.den ρ) :
    FConOk Pr ⟨f, args', 1, rdOb ty (hdB (.var 0)) (tlL (.var 0)), .leaf ⟨r', 1, rdOb ty (hdB S') (tlL S'), oks.map fun b => b.sub sS⟩⟩ := by
  intro ρ q hp hok
  cases hp
  have hsn : sS.nix := Sub.noix_ok rfl
  have hs := (h (ρ.sub sS) _ rfl (fun c hc => by
    rw [← B.sub_den hsn]
    exact hok _ (List.mem_map.2 ⟨c, hc, rfl⟩))).sub2 hsn
  rw [ha, obOf_sub, obOf_sub] at hs
  have hst := hst ρ
  have h5 : Sto.imp ρ (obOf (rdOb ty (b.sub sS) (l.sub' sS))).get (obOf (rdOb ty (hdB S') (tlL S'))).get :=
    rdOb_imp (by rw [B.sub_den hsn, hdB_den, ← hst, rdS_stS]) (by rw [L.sub_den hsn, tlL_den, ← hst, rdS_stS])
  exact ⟨hs.there, fun β xs w hS hA => (hs.calls β xs w hS hA).mono fun e w' ⟨x, β', he, hR, hS', st⟩ =>
    ⟨x, β', he, hr ρ β' x hS'.env hR, hS'.imp h5, st.le, st.os, st.tape, st.output, st.size, st.fr, fun b hb => st.own b (hb.imp h5), st.fzn, st.kvn⟩⟩
theorem sub_b0 (ρ : Env) : (ρ.sub sS).b 0 = (rdS (ρ.l 0)).1 := hdB_den ρ (.var 0)
theorem sub_l0 (ρ : Env) : (ρ.sub sS).l 0 = (rdS (ρ.l 0)).2 := rfl
theorem sub_e0 (ρ : Env) : (ρ.sub sS).e 0 = ρ.e 0 := rfl
/-! a number -/
def nvS (m : E) (S : L) : E := .get (.app 62 (.cons m S) .nil) (.lit 0)
def nsS (m : E) (S : L) : L := .app 61 (.cons m S) .nil
theorem nvS_den (ρ : Env) (m : E) (S : L) : (nvS m S).den ρ = (rrN (m.den ρ) (rdS (S.den ρ))).1 := by
  show IntKind.i64.wrap (rrN (m.den ρ) (rdS (S.den ρ))).1 = _
  rw [rrN_wrap]
theorem nsS_den (ρ : Env) (m : E) (S : L) : (nsS m S).den ρ = stS (rrN (m.den ρ) (rdS (S.den ρ))).2 := rfl
def numS (f : FuncId) (ty : TypeId) (args : List V) (m : E) : FCon := ⟨f, args, 1, rdOb ty (hdB (.var 0)) (tlL (.var 0)), .leaf ⟨.int .i64 (nvS m (.var 0)), 1, rdOb ty (hdB (nsS m (.var 0))) (tlL (nsS m (.var 0))), [bytB (tlL (.var 0))]⟩⟩
theorem numS_of {f : FuncId} {ty : TypeId} {args args' : List V} {m : E} (h : FConOk Pr (numF f ty args m)) (ha : V.subs args sS = args') (hm : ∀ ρ : Env, m.den (ρ.sub sS) = m.den ρ) : FConOk Pr (numS f ty args' m) :=
  toS h ha (fun ρ => V.imp.int (by rw [E.sub_den (Sub.noix_ok (rfl : sS.noix = true)), nv_den, nvS_den, hm]; show (rrN _ ((ρ.sub sS).b 0, (ρ.sub sS).l 0)).1 = _; rw [sub_b0, sub_l0]; rfl)) fun ρ => by
    rw [nb_den, nr_den, nsS_den, hm]
    show stS (rrN _ ((ρ.sub sS).b 0, (ρ.sub sS).l 0)).2 = _
    rw [sub_b0, sub_l0]; rfl
def num1S : FCon := numS 53 97 [.ptr 0 (.lit 0) 0 0, ival 0] (.var 0)
def num2S : FCon := numS 77 135 [.ptr 0 (.lit 0) 0 0] (.lit 9223372036854775807)
theorem num1S_ok : FConOk Pr num1S := numS_of num1F_ok rfl fun ρ => rfl
theorem num2S_ok : FConOk Pr num2S := numS_of num2F_ok rfl fun ρ => rfl
/-! rows of numbers -/
def rvS (ms : List Int) (S : L) : List E := (List.range ms.length).map fun i => .get (.app 64 S (msL ms)) (.lit (.ofNat i))
def rsS (ms : List Int) (S : L) : L := .app 63 S (msL ms)
theorem rvS_den (ρ : Env) (ms : List Int) (S : L) : (rvS ms S).map (E.den ρ) = (rrRow ms (rdS (S.den ρ))).1 := by
  have e : (L.app 64 S (msL ms)).den ρ = (rrRow ms (rdS (S.den ρ))).1 := by
    show ((rrRow (((msL ms).den ρ).getD 0 []) (rdS (S.den ρ))).1).map IntKind.i64.wrap = _
    rw [msL_den]
    exact rrRow_wrap _ _
  unfold rvS
  rw [List.map_map]
  conv => rhs; rw [← range_getD (d := (0 : Int)) (rrRow ms (rdS (S.den ρ))).1 ms.length (rrRow_len _ _)]
  exact List.map_congr_left fun i _ => by
    show ((L.app 64 S (msL ms)).den ρ).getD ((i : Int)).toNat 0 = _
    rw [e, Int.toNat_natCast]
theorem rsS_den (ρ : Env) (ms : List Int) (S : L) : (rsS ms S).den ρ = stS (rrRow ms (rdS (S.den ρ))).2 := by
  show stS (rrRow (((msL ms).den ρ).getD 0 []) (rdS (S.den ρ))).2 = _
  rw [msL_den]; rfl
def rowS (f : FuncId) (ty : TypeId) (ms : List Int) : FCon := ⟨f, [.ptr 0 (.lit 0) 0 0], 1, rdOb ty (hdB (.var 0)) (tlL (.var 0)), .leaf ⟨.agg ((rvS ms (.var 0)).map (V.int .i64)), 1, rdOb ty (hdB (rsS ms (.var 0))) (tlL (rsS ms (.var 0))), [bytB (tlL (.var 0))]⟩⟩
theorem rowS_of {f : FuncId} {ty : TypeId} {ms : List Int} (h : FConOk Pr (rowRF f ty ms)) : FConOk Pr (rowS f ty ms) :=
  toS h rfl (fun ρ => by
    have e : (V.agg ((rvE ms (.var 0) (.var 0)).map (V.int .i64))).sub sS = .agg (((rvE ms (.var 0) (.var 0)).map fun e => e.sub sS).map (V.int .i64)) := by
      simp only [V.sub, V.subs_map, List.map_map]; rfl
    rw [e]
    refine V.imp.ints ?_
    rw [List.map_map, rvS_den]
    have : ((fun e : E => E.den ρ e) ∘ fun e : E => e.sub sS) = E.den (ρ.sub sS) := funext fun e => E.sub_den (Sub.noix_ok (rfl : sS.noix = true)) ρ e
    show List.map ((fun e : E => E.den ρ e) ∘ fun e : E => e.sub sS) _ = _
    rw [this, rvE_den]
    show (rrRow ms ((ρ.sub sS).b 0, (ρ.sub sS).l 0)).1 = _
    rw [sub_b0, sub_l0]; rfl) fun ρ => by
    rw [rb_den, rr_den, rsS_den]
    show stS (rrRow ms ((ρ.sub sS).b 0, (ρ.sub sS).l 0)).2 = _
    rw [sub_b0, sub_l0]; rfl
def op1S : FCon := rowS 54 97 opM
def sig1S : FCon := rowS 55 97 sigM
def op2S : FCon := rowS 78 135 (anyM 5)
def sig2S : FCon := rowS 79 135 (anyM 2)
theorem op1S_ok : FConOk Pr op1S := rowS_of op1F_ok
theorem sig1S_ok : FConOk Pr sig1S := rowS_of sig1F_ok
theorem op2S_ok : FConOk Pr op2S := rowS_of op2F_ok
theorem sig2S_ok : FConOk Pr sig2S := rowS_of sig2F_ok
/-! so many bytes -/
def small29 (l : L) : B := .lt (.len l) (.lit 536870912)
theorem small29_den {ρ : Env} {l : L} : (small29 l).den ρ = true ↔ (l.den ρ).length < 536870912 := by
  show ltb ((l.den ρ).length : Nat) 536870912 = true ↔ _
  rw [ltb_eq, decide_eq_true_eq]; omega
def tkE (n : E) (S : L) : L := .app 76 (.cons n S) .nil
def tkS (n : E) (S : L) : L := .app 75 (.cons n S) .nil
theorem tkE_den (ρ : Env) (n : E) (S : L) : (tkE n S).den ρ = (rrT (n.den ρ) (rdS (S.den ρ))).1 := rfl
theorem tkS_den (ρ : Env) (n : E) (S : L) : (tkS n S).den ρ = stS (rrT (n.den ρ) (rdS (S.den ρ))).2 := rfl
def bl (b : B) (l : L) : L := .cons (.ofB b) l
theorem bl_den (ρ : Env) (b : B) (l : L) : rdS ((bl b l).den ρ) = (b.den ρ, l.den ρ) := by
  show rdS (b2i (b.den ρ) :: l.den ρ) = _
  cases b.den ρ <;> rfl
theorem V.imp.fsI {ρ : Env} {k : IntKind} {z : Nat} {a b : L} (h : a.den ρ = b.den ρ) : V.imp ρ (.fs z (.ints k a)) (.fs z (.ints k b)) := fun β x hβ hr => by
  have hr : F1 (.fs z (.ints k a)) β.g x := hr
  show F1 (.fs z (.ints k b)) β.g x
  exact F1.ints_at rfl (by rw [hβ, h]) hr
theorem V.imp.nilI {ρ : Env} {k : IntKind} {z : Nat} {b : L} (h : b.den ρ = []) : V.imp ρ (.sc (.slice none 0 0)) (.fs z (.ints k b)) := fun β x hβ hr => by
  have hr : F1 (.sc (.slice none 0 0)) β.g x := hr
  show F1 (.fs z (.ints k b)) β.g x
  refine F1_nil_row ?_ hr
  simp only [Fr]
  rw [hβ, h]; rfl
def takeT (ty : TypeId) (ok : List B) : T FRes :=
  let bd : T FRes := .leaf ⟨.sc (.slice none 0 0), 1, rdOb ty (.lit true) (.var 0), []⟩
  .br (.var 0) bd (.br (.lt (.var 0) (.lit 0)) bd (.br (.lt (.len (.var 0)) (.var 0)) bd (.leaf ⟨.fs 1 (.ints .u8 (.cut (.var 0) (.lit 0) (.var 0))), 1, rdOb ty (.var 0) (.cut (.var 0) (.var 0) (.len (.var 0))), ok⟩)))
def takeF (f : FuncId) (ty : TypeId) : FCon := ⟨f, [.ptr 0 (.lit 0) 0 0, ival 0], 1, rdOb ty (.var 0) (.var 0), .leaf ⟨.fs 1 (.ints .u8 (tkE (.var 0) (bl (.var 0) (.var 0)))), 1, rdOb ty (hdB (tkS (.var 0) (bl (.var 0) (.var 0)))) (tlL (tkS (.var 0) (bl (.var 0) (.var 0)))), [small29 (.var 0)]⟩⟩
theorem rrT_t (n : Int) (l : List Int) : rrT n (true, l) = ([], true, l) := rfl
theorem rrT_f (n : Int) (l : List Int) : rrT n (false, l) = if n < 0 ∨ (l.length : Int) < n then ([], true, l) else (l.take n.toNat, false, l.drop n.toNat) := rfl
theorem takeF_of {f : FuncId} {ty : TypeId} {ok : List B} (h : FConOk Pr ⟨f, [.ptr 0 (.lit 0) 0 0, ival 0], 1, rdOb ty (.var 0) (.var 0), takeT ty ok⟩) (hok : ∀ ρ : Env, (ρ.l 0).length < 536870912 → okOk ρ ok) : FConOk Pr (takeF f ty) := by
  refine FCon.alt h fun ρ q' hp hq => ?_
  cases hp
  have hsm := small29_den.1 (hq _ (List.mem_cons_self ..))
  have fin : ∀ (v : V) (b : B) (l : L) (ok : List B), okOk ρ ok → V.imp ρ v (.fs 1 (.ints .u8 (tkE (.var 0) (bl (.var 0) (.var 0))))) → b.den ρ = (rrT (ρ.e 0) (ρ.b 0, ρ.l 0)).2.1 → l.den ρ = (rrT (ρ.e 0) (ρ.b 0, ρ.l 0)).2.2 →
      okOk ρ ok ∧ V.imp ρ v (.fs 1 (.ints .u8 (tkE (.var 0) (bl (.var 0) (.var 0))))) ∧ (1 : Nat) = 1 ∧ Sto.imp ρ (obOf (rdOb ty b l)).get (obOf (rdOb ty (hdB (tkS (.var 0) (bl (.var 0) (.var 0)))) (tlL (tkS (.var 0) (bl (.var 0) (.var 0)))))).get :=
    fun v b l ok h0 h1 h2 h3 => ⟨h0, h1, rfl, rdOb_imp (by rw [hdB_den, tkS_den, rdS_stS, bl_den, h2]; rfl) (by rw [tlL_den, tkS_den, rdS_stS, bl_den, h3]; rfl)⟩
  have hd : (tkE (.var 0) (bl (.var 0) (.var 0))).den ρ = (rrT (ρ.e 0) (ρ.b 0, ρ.l 0)).1 := by rw [tkE_den, bl_den]; rfl
  have no : okOk ρ [] := fun b hb => by cases hb
  simp only [takeT, T.pick]
  rw [show (B.var 0).den ρ = ρ.b 0 from rfl]
  cases hb : ρ.b 0 with
  | true =>
    rw [hb] at fin hd
    exact ⟨_, rfl, fin _ _ _ _ no (V.imp.nilI (by rw [hd]; rfl)) rfl rfl⟩
  | false =>
    rw [hb] at fin hd
    rw [cond_false]
    have h1 : (B.lt (.var 0) (.lit 0)).den ρ = decide (ρ.e 0 < 0) := ltb_eq ..
    have h2 : (B.lt (.len (.var 0)) (.var 0)).den ρ = decide (((ρ.l 0).length : Int) < ρ.e 0) := ltb_eq ..
    rw [h1, h2]
    by_cases c1 : ρ.e 0 < 0
    · rw [decide_eq_true c1, cond_true]
      have e : rrT (ρ.e 0) (false, ρ.l 0) = ([], true, ρ.l 0) := by rw [rrT_f, if_pos (.inl c1)]
      rw [e] at fin hd
      exact ⟨_, rfl, fin _ _ _ _ no (V.imp.nilI hd) rfl rfl⟩
    · rw [decide_eq_false c1, cond_false]
      by_cases c2 : ((ρ.l 0).length : Int) < ρ.e 0
      · rw [decide_eq_true c2, cond_true]
        have e : rrT (ρ.e 0) (false, ρ.l 0) = ([], true, ρ.l 0) := by rw [rrT_f, if_pos (.inr c2)]
        rw [e] at fin hd
        exact ⟨_, rfl, fin _ _ _ _ no (V.imp.nilI hd) rfl rfl⟩
      · rw [decide_eq_false c2, cond_false]
        have e : rrT (ρ.e 0) (false, ρ.l 0) = ((ρ.l 0).take (ρ.e 0).toNat, false, (ρ.l 0).drop (ρ.e 0).toNat) := by rw [rrT_f, if_neg (by simp [c1, c2])]
        rw [e] at fin hd
        refine ⟨_, rfl, fin _ _ _ _ (hok ρ hsm) (V.imp.fsI ?_) ?_ ?_⟩
        · rw [hd]
          show ((ρ.l 0).take (ρ.e 0).toNat).drop 0 = _
          rfl
        · exact hb
        · show ((ρ.l 0).take ((((ρ.l 0).length : Nat) : Int)).toNat).drop (ρ.e 0).toNat = _
          rw [Int.toNat_natCast, List.take_length]
def take1F : FCon := takeF 52 97
def take2F : FCon := takeF 76 135
theorem take1F_ok : FConOk Pr take1F := takeF_of (ok := []) (FCon.ofExecS hm cfRJ_ok (fuel := 100) (depth := 12) (by kernel_rfl)) (fun _ _ b hb => by cases hb)
theorem take2F_ok : FConOk Pr take2F := takeF_of (ok := [ltLen (.cut (.var 0) (.lit 0) (.var 0))]) (FCon.ofExecS hm cfRJ_ok (fuel := 100) (depth := 12) (by kernel_rfl)) fun ρ h b hb => by
  simp only [List.mem_cons, List.not_mem_nil, or_false] at hb
  subst hb
  show ltb ((((ρ.l 0).take (ρ.e 0).toNat).drop 0).length : Nat) 1073741824 = true
  rw [ltb_eq, decide_eq_true_eq]
  simp only [List.drop_zero, List.length_take]
  omega
def takeS (f : FuncId) (ty : TypeId) : FCon := ⟨f, [.ptr 0 (.lit 0) 0 0, ival 0], 1, rdOb ty (hdB (.var 0)) (tlL (.var 0)), .leaf ⟨.fs 1 (.ints .u8 (tkE (.var 0) (.var 0))), 1, rdOb ty (hdB (tkS (.var 0) (.var 0))) (tlL (tkS (.var 0) (.var 0))), [small29 (tlL (.var 0))]⟩⟩
theorem takeS_of {f : FuncId} {ty : TypeId} (h : FConOk Pr (takeF f ty)) : FConOk Pr (takeS f ty) :=
  toS h rfl (fun ρ => V.imp.fsI (by
    rw [L.sub_den (Sub.noix_ok (rfl : sS.noix = true)), tkE_den, tkE_den, bl_den]
    show (rrT _ ((ρ.sub sS).b 0, (ρ.sub sS).l 0)).1 = _
    rw [sub_b0, sub_l0]; rfl)) fun ρ => by
    rw [hdB_den, tlL_den, tkS_den, tkS_den, rdS_stS, bl_den]
    show stS (rrT _ ((ρ.sub sS).b 0, (ρ.sub sS).l 0)).2 = _
    rw [sub_b0, sub_l0]; rfl
def take1S : FCon := takeS 52 97
def take2S : FCon := takeS 76 135
theorem take1S_ok : FConOk Pr take1S := takeS_of take1F_ok
theorem take2S_ok : FConOk Pr take2S := takeS_of take2F_ok
end Go.Proofs.Ytlghaoohfklpnaa.E
/- Sums and boxes read: contracts. -/
namespace Go.Proofs.Ytlghaoohfklpnaa.E
open Go Go.RowKit
set_option maxRecDepth 100000
set_option linter.unusedVariables false
def haE (S : L) : List E := appE 32 77 S .nil
theorem haE_den (ρ : Env) (S : L) : (haE S).map (E.den ρ) = J 77 (S.den ρ) [] := appE_den ρ 32 77 S .nil rfl
def hashF (f : FuncId) (ty : TypeId) : FCon := ⟨f, [.ptr 0 (.lit 0) 0 0], 1, rdOb ty (.var 0) (.var 0), .leaf ⟨.agg ((haE (bl (.var 0) (.var 0))).map (V.int .u8)), 1, rdOb ty (hdB (tkS (.lit 32) (bl (.var 0) (.var 0)))) (tlL (tkS (.lit 32) (bl (.var 0) (.var 0)))), [bytB (.var 0)]⟩⟩
def hashT (ty : TypeId) : T FRes :=
  let bd : T FRes := .leaf ⟨.agg ((List.replicate 32 (.lit 0)).map (V.int .u8)), 1, rdOb ty (.lit true) (.var 0), []⟩
  .br (.var 0) bd (.br (.lt (.len (.var 0)) (.lit 32)) bd (.leaf ⟨.agg (((List.range 32).map fun i => E.get (.var 0) (.lit (.ofNat i))).map (V.int .u8)), 1, rdOb ty (.var 0) (.cut (.var 0) (.lit 32) (.len (.var 0))), []⟩))
theorem cut32 (l : List Int) (h : Byts l) : J 77 (1 :: l) [] = List.replicate 32 0 := by rfl
theorem J77_bad (l : List Int) : J 77 (stS (true, l)) [] = List.replicate 32 0 := rfl
theorem J77 (s : Rd) : J 77 (stS s) [] = cutJ 32 ((rrT 32 s).1.map IntKind.u8.wrap) := by
  show cutJ 32 ((rrT 32 (rdS (stS s))).1.map IntKind.u8.wrap) = _
  rw [rdS_stS]
theorem byt_wrap {l : List Int} (h : Byts l) : l.map IntKind.u8.wrap = l := by
  conv => rhs; rw [← List.map_id l]
  exact List.map_congr_left fun c hc => by
    have := h c hc
    exact wrap_id .u8 _ this.1 this.2
theorem hashF_of {f : FuncId} {ty : TypeId} (h : FConOk Pr ⟨f, [.ptr 0 (.lit 0) 0 0], 1, rdOb ty (.var 0) (.var 0), hashT ty⟩) : FConOk Pr (hashF f ty) := by
  refine FCon.alt h fun ρ q' hp hq => ?_
  cases hp
  have hby := bytB_den.1 (hq _ (List.mem_cons_self ..))
  have hby : Byts (ρ.l 0) := hby
  have hst : (bl (.var 0) (.var 0)).den ρ = stS (ρ.b 0, ρ.l 0) := by
    show b2i (ρ.b 0) :: ρ.l 0 = _
    cases ρ.b 0 <;> rfl
  have hd : (haE (bl (.var 0) (.var 0))).map (E.den ρ) = cutJ 32 ((rrT 32 (ρ.b 0, ρ.l 0)).1.map IntKind.u8.wrap) := by rw [haE_den, hst, J77]
  have fin : ∀ (es : List E) (b : B) (l : L), es.map (E.den ρ) = (haE (bl (.var 0) (.var 0))).map (E.den ρ) → b.den ρ = (rrT 32 (ρ.b 0, ρ.l 0)).2.1 → l.den ρ = (rrT 32 (ρ.b 0, ρ.l 0)).2.2 →
      okOk ρ [] ∧ V.imp ρ (.agg (es.map (V.int .u8))) (.agg ((haE (bl (.var 0) (.var 0))).map (V.int .u8))) ∧ (1 : Nat) = 1 ∧ Sto.imp ρ (obOf (rdOb ty b l)).get (obOf (rdOb ty (hdB (tkS (.lit 32) (bl (.var 0) (.var 0)))) (tlL (tkS (.lit 32) (bl (.var 0) (.var 0)))))).get :=
    fun es b l h1 h2 h3 => ⟨fun b hb => (by cases hb), V.imp.ints h1, rfl, rdOb_imp (by rw [hdB_den, tkS_den, rdS_stS, bl_den, h2]; rfl) (by rw [tlL_den, tkS_den, rdS_stS, bl_den, h3]; rfl)⟩
  simp only [hashT, T.pick]
  rw [show (B.var 0).den ρ = ρ.b 0 from rfl]
  cases hb : ρ.b 0 with
  | true =>
    rw [hb] at fin hd
    exact ⟨_, rfl, fin _ _ _ (by rw [hd]; rfl) rfl rfl⟩
  | false =>
    rw [hb] at fin hd
    rw [cond_false]
    have h2 : (B.lt (.len (.var 0)) (.lit 32)).den ρ = decide (((ρ.l 0).length : Int) < 32) := ltb_eq ..
    rw [h2]
    by_cases c2 : ((ρ.l 0).length : Int) < 32
    · rw [decide_eq_true c2, cond_true]
      have e : rrT 32 (false, ρ.l 0) = ([], true, ρ.l 0) := by rw [rrT_f, if_pos (.inr c2)]
      rw [e] at fin hd
      exact ⟨_, rfl, fin _ _ _ (by rw [hd]; rfl) rfl rfl⟩
    · rw [decide_eq_false c2, cond_false]
      have e : rrT 32 (false, ρ.l 0) = ((ρ.l 0).take 32, false, (ρ.l 0).drop 32) := by rw [rrT_f, if_neg (by simp [c2])]; rfl
      rw [e] at fin hd
      refine ⟨_, rfl, fin _ _ _ ?_ hb ?_⟩
      · rw [hd]
        simp only
        rw [byt_wrap (hby.take 32)]
        unfold cutJ
        rw [List.map_map]
        refine List.map_congr_left fun i hi => ?_
        have hi := List.mem_range.1 hi
        show (ρ.l 0).getD ((i : Int)).toNat 0 = ((ρ.l 0).take 32).getD i 0
        rw [Int.toNat_natCast, List.getD, List.getD, List.getElem?_take, if_pos hi]
      · show ((ρ.l 0).take ((((ρ.l 0).length : Nat) : Int)).toNat).drop 32 = _
        rw [Int.toNat_natCast, List.take_length]
def hash1F : FCon := hashF 57 97
def hash2F : FCon := hashF 80 135
theorem hash1F_ok : FConOk Pr hash1F := hashF_of (FCon.ofExecS hm cfRJ_ok (fuel := 100) (depth := 12) (by kernel_rfl))
theorem hash2F_ok : FConOk Pr hash2F := hashF_of (FCon.ofExecS hm cfRJ_ok (fuel := 100) (depth := 12) (by kernel_rfl))
def hashS (f : FuncId) (ty : TypeId) : FCon := ⟨f, [.ptr 0 (.lit 0) 0 0], 1, rdOb ty (hdB (.var 0)) (tlL (.var 0)), .leaf ⟨.agg ((haE (.var 0)).map (V.int .u8)), 1, rdOb ty (hdB (tkS (.lit 32) (.var 0))) (tlL (tkS (.lit 32) (.var 0))), [bytB (tlL (.var 0))]⟩⟩
theorem J77_S (a : List Int) : J 77 (stS (rdS a)) [] = J 77 a [] := by
  rw [J77]; rfl
theorem hashS_of {f : FuncId} {ty : TypeId} (h : FConOk Pr (hashF f ty)) : FConOk Pr (hashS f ty) :=
  toS h rfl (fun ρ => by
    have e : (V.agg ((haE (bl (.var 0) (.var 0))).map (V.int .u8))).sub sS = .agg (((haE (bl (.var 0) (.var 0))).map fun e => e.sub sS).map (V.int .u8)) := by
      simp only [V.sub, V.subs_map, List.map_map]; rfl
    rw [e]
    refine V.imp.ints ?_
    rw [List.map_map]
    have : ((fun e : E => E.den ρ e) ∘ fun e : E => e.sub sS) = E.den (ρ.sub sS) := funext fun e => E.sub_den (Sub.noix_ok (rfl : sS.noix = true)) ρ e
    show List.map ((fun e : E => E.den ρ e) ∘ fun e : E => e.sub sS) _ = _
    rw [this, haE_den, haE_den]
    have hst : (bl (.var 0) (.var 0)).den (ρ.sub sS) = stS ((ρ.sub sS).b 0, (ρ.sub sS).l 0) := by
      show b2i ((ρ.sub sS).b 0) :: (ρ.sub sS).l 0 = _
      cases (ρ.sub sS).b 0 <;> rfl
    rw [hst, sub_b0, sub_l0]
    exact J77_S _) fun ρ => by
    rw [hdB_den, tlL_den, tkS_den, tkS_den, rdS_stS, bl_den]
    show stS (rrT _ ((ρ.sub sS).b 0, (ρ.sub sS).l 0)).2 = _
    rw [sub_b0, sub_l0]; rfl
def hash1S : FCon := hashS 57 97
def hash2S : FCon := hashS 80 135
theorem hash1S_ok : FConOk Pr hash1S := hashS_of hash1F_ok
theorem hash2S_ok : FConOk Pr hash2S := hashS_of hash2F_ok
/-! a box -/
noncomputable def cfBx : Cf := ⟨tabF [num1S, take1S] (tabC [cloneC]), lpC [], noMg⟩
theorem cfBx_ok : CfOk Pr cfBx := ⟨fun ρ => tabF_ok (tabC_ok (all_cons clone_ok all_nil)) (all_cons num1S_ok (all_cons take1S_ok all_nil)), fun ρ => lpC_ok all_nil⟩
def bxL (m : E) (S : L) : L := .app 73 (.cons m S) .nil
def bxS (m : E) (S : L) : L := .app 74 (.cons m S) .nil
def rbox1S : FCon := ⟨56, [.ptr 0 (.lit 0) 0 0], 1, rdOb 97 (hdB (.var 0)) (tlL (.var 0)), .leaf ⟨.fs 1 (.ints .u8 (bxL (.lit 300) (.var 0))), 1, rdOb 97 (hdB (bxS (.lit 300) (.var 0))) (tlL (bxS (.lit 300) (.var 0))), [bytB (tlL (.var 0)), small29 (tlL (.var 0))]⟩⟩
theorem rrN_shr (m : Int) (s : Rd) : (rrN m s).2.2.length ≤ s.2.length := by
  obtain ⟨b, l⟩ := s
  cases b with
  | true => exact Nat.le_refl _
  | false =>
    rw [rrN_f]
    split
    · exact Nat.le_refl _
    · split <;> simp
theorem rrT_shr (n : Int) (s : Rd) : (rrT n s).2.2.length ≤ s.2.length ∧ (rrT n s).1.length ≤ s.2.length := by
  obtain ⟨b, l⟩ := s
  cases b with
  | true => exact ⟨Nat.le_refl _, Nat.zero_le _⟩
  | false =>
    rw [rrT_f]
    split
    · exact ⟨Nat.le_refl _, Nat.zero_le _⟩
    · simp [List.length_take]; omega
theorem rbox1S_ok : FConOk Pr rbox1S := by
  have h : FConOk Pr ⟨56, [.ptr 0 (.lit 0) 0 0], 1, rdOb 97 (hdB (.var 0)) (tlL (.var 0)), .leaf ⟨.fs 1 (.ints .u8 (tkE (nvS (.lit 300) (.var 0)) (nsS (.lit 300) (.var 0)))), 1, rdOb 97 (hdB (tkS (nvS (.lit 300) (.var 0)) (nsS (.lit 300) (.var 0)))) (tlL (tkS (nvS (.lit 300) (.var 0)) (nsS (.lit 300) (.var 0)))), [ltLen (tkE (nvS (.lit 300) (.var 0)) (nsS (.lit 300) (.var 0))), small29 (tlL (nsS (.lit 300) (.var 0))), bytB (tlL (.var 0))]⟩⟩ :=
    FCon.ofExecS hm cfBx_ok (fuel := 100) (depth := 12) (by kernel_rfl)
  refine FCon.alt h fun ρ q' hp hq => ?_
  cases hp
  have h1 := hq _ (List.mem_cons_self ..)
  have h2 := small29_den.1 (hq _ (List.mem_cons_of_mem _ (List.mem_cons_self ..)))
  have h2 : (rdS (ρ.l 0)).2.length < 536870912 := h2
  have hs : (rrN 300 (rdS (ρ.l 0))).2.2.length ≤ (rdS (ρ.l 0)).2.length := rrN_shr _ _
  have ht := rrT_shr (rrN 300 (rdS (ρ.l 0))).1 (rrN 300 (rdS (ρ.l 0))).2
  have ev : (nvS (.lit 300) (.var 0)).den ρ = (rrN 300 (rdS (ρ.l 0))).1 := nvS_den ..
  have es : rdS ((nsS (.lit 300) (.var 0)).den ρ) = (rrN 300 (rdS (ρ.l 0))).2 := by rw [nsS_den, rdS_stS]; rfl
  have et : (tkE (nvS (.lit 300) (.var 0)) (nsS (.lit 300) (.var 0))).den ρ = (rrBox 300 (rdS (ρ.l 0))).1 := by rw [tkE_den, ev, es]; rfl
  have eu : rdS ((tkS (nvS (.lit 300) (.var 0)) (nsS (.lit 300) (.var 0))).den ρ) = (rrBox 300 (rdS (ρ.l 0))).2 := by rw [tkS_den, ev, es, rdS_stS]; rfl
  have eb : rdS ((bxS (.lit 300) (.var 0)).den ρ) = (rrBox 300 (rdS (ρ.l 0))).2 := by
    show rdS (stS (rrBox 300 (rdS (ρ.l 0))).2) = _
    rw [rdS_stS]
  refine ⟨_, rfl, ?_, V.imp.fsI et, rfl, rdOb_imp (by rw [hdB_den, hdB_den, eu, eb]) (by rw [tlL_den, tlL_den, eu, eb])⟩
  intro b hb
  simp only [List.mem_cons, List.not_mem_nil, or_false] at hb
  rcases hb with rfl | rfl | rfl
  · show ltb (((tkE (nvS (.lit 300) (.var 0)) (nsS (.lit 300) (.var 0))).den ρ).length : Nat) 1073741824 = true
    rw [et, ltb_eq, decide_eq_true_eq]
    have : (rrBox 300 (rdS (ρ.l 0))).1.length ≤ (rrN 300 (rdS (ρ.l 0))).2.2.length := ht.2
    omega
  · rw [small29_den, tlL_den, es]; omega
  · exact h1
end Go.Proofs.Ytlghaoohfklpnaa.E
/- Loops that read operations, votes: contracts. -/
namespace Go.Proofs.Ytlghaoohfklpnaa.E
open Go Go.RowKit
set_option maxRecDepth 100000
set_option linter.unusedVariables false
noncomputable def cfP : Cf := ⟨tabF [op1S, sig1S, num1S, take1S, take1F, hash1S, rbox1S] (tabC []), lpC [], noMg⟩
theorem cfP_ok : CfOk Pr cfP := ⟨fun ρ => tabF_ok (tabC_ok all_nil) (all_cons op1S_ok (all_cons sig1S_ok (all_cons num1S_ok (all_cons take1S_ok (all_cons take1F_ok (all_cons hash1S_ok (all_cons rbox1S_ok all_nil))))))), fun ρ => lpC_ok all_nil⟩
theorem rrRow_byts : ∀ (ms : List Int) (b : Bool) (l : List Int), Byts l → Byts (rrRow ms (b, l)).2.2
  | [], b, l, h => h
  | m :: ms, b, l, h => rrRow_byts ms _ _ (rrN_byts h)
theorem rrRow_shr : ∀ (ms : List Int) (s : Rd), (rrRow ms s).2.2.length ≤ s.2.length
  | [], s => Nat.le_refl _
  | m :: ms, s => Nat.le_trans (rrRow_shr ms (rrN m s).2) (rrN_shr m s)
theorem rrT_byts {n : Int} {b : Bool} {l : List Int} (h : Byts l) : Byts (rrT n (b, l)).2.2 := by
  cases b with
  | true => exact h
  | false =>
    rw [rrT_f]
    split
    · exact h
    · exact h.drop _
theorem rrBox_byts {m : Int} {b : Bool} {l : List Int} (h : Byts l) : Byts (rrBox m (b, l)).2.2 := rrT_byts (rrN_byts h)
theorem rrBox_shr (m : Int) (s : Rd) : (rrBox m s).2.2.length ≤ s.2.length := Nat.le_trans (rrT_shr _ _).1 (rrN_shr m s)
def rowsF (ms : List Int) : RdF := ⟨rrRows ms, fun s => (rrRow ms s).1, fun s => (rrRow ms s).2, fun _ => rfl, fun b l h => rrRow_byts ms b l h, rrRow_shr ms⟩
def boxsF (m : Int) : RdF := ⟨rrBoxes m, fun s => (rrBox m s).1, fun s => (rrBox m s).2, fun _ => rfl, fun b l h => rrBox_byts h, rrBox_shr m⟩
def lessE : E := .bin .sub .i64 (.var 1) (.var 0)
theorem less_den {ρ : Env} (h : rdI ρ) : lessE.den ρ = ρ.e 1 - ρ.e 0 := by
  obtain ⟨h1, h2, _, _, h5, _⟩ := h
  exact wrap_id .i64 _ (by show (-9223372036854775808 : Int) ≤ ρ.e 1 - ρ.e 0; omega) (by show ρ.e 1 - ρ.e 0 ≤ (9223372036854775807 : Int); omega)
def rwL (ms : List Int) (n : E) (S : L) : LL := .app 65 (.cons n S) (msL ms)
def rwS (ms : List Int) (n : E) (S : L) : L := .app 66 (.cons n S) (msL ms)
theorem rwL_den (ρ : Env) (ms : List Int) (n : E) (S : L) : (rwL ms n S).den ρ = (rrRows ms (n.den ρ).toNat (rdS (S.den ρ))).1 := by
  show (rrRows (((msL ms).den ρ).getD 0 []) (n.den ρ).toNat (rdS (S.den ρ))).1 = _
  rw [msL_den]; rfl
theorem rwS_den (ρ : Env) (ms : List Int) (n : E) (S : L) : (rwS ms n S).den ρ = stS (rrRows ms (n.den ρ).toNat (rdS (S.den ρ))).2 := by
  show stS (rrRows (((msL ms).den ρ).getD 0 []) (n.den ρ).toNat (rdS (S.den ρ))).2 = _
  rw [msL_den]; rfl
def bxsL (n : E) (S : L) : LL := .app 69 (.cons n S) .nil
def bxsS (n : E) (S : L) : L := .app 70 (.cons n S) .nil
theorem rowsR (ms : List Int) : RdR rdI (rowsF ms) (fun ρ => (ρ.e 1 - ρ.e 0).toNat) (rwS ms lessE (.var 0)) (.cat (.var 0) (rwL ms lessE (.var 0))) :=
  ⟨fun ρ h => by rw [rwS_den, less_den h, rdS_stS]; rfl, fun ρ h => by show ρ.ll 0 ++ (rwL ms lessE (.var 0)).den ρ = _; rw [rwL_den, less_den h]; rfl⟩
theorem boxsR : RdR rdI (boxsF 300) (fun ρ => (ρ.e 1 - ρ.e 0).toNat) (bxsS lessE (.var 0)) (.cat (.var 0) (bxsL lessE (.var 0))) :=
  ⟨fun ρ h => by
    show rdS (stS (rrBoxes 300 (lessE.den ρ).toNat (rdS (ρ.l 0))).2) = _
    rw [less_den h, rdS_stS]; rfl, fun ρ h => by
    show ρ.ll 0 ++ (rrBoxes 300 (lessE.den ρ).toNat (rdS (ρ.l 0))).1 = _
    rw [less_den h]; rfl⟩
def zeroI (n : Nat) : List V := (List.range n).map fun _ => .int .i64 (.lit 0)
def zeroB (n : Nat) : List V := (List.range n).map fun _ => .int .u8 (.lit 0)
def nilS : V := .sc (.slice none 0 0)
def rdrO (S : L) : Ob := ⟨.any [.fs 1 (.ints .u8 (tlL S)), .bool (hdB S)], true, 97⟩
def opO (ls : LL) : Ob := ⟨.recs 5 (.cnt ls) (tI .i64 5 ls), true, 99⟩
def voO (ls : LL) : Ob := ⟨.recs 3 (.cnt ls) (tI .i64 3 ls), true, 89⟩
/-- the commit while its operations are read. -/
def c1O (ls : LL) : Ob := ⟨.any ([ival 2, ival 3, .sl 3 0 (.lit 0) (.cnt ls) 5 true, nilS] ++ zeroI 4 ++ [nilS] ++ zeroB 32 ++ zeroI 2), true, 44⟩
def ops1Fr : List (Nat × V) := [(4, .ptr 1 (.lit 0) 0 0), (5, .ptr 2 (.lit 0) 0 0)]
def ops1Ob (S : L) (ls : LL) : List (Nat × Ob) := [(3, opO ls), (1, rdrO S), (2, c1O ls)]
def rOps1H : LHead := ⟨ops1Fr ++ [(21, ival 1), (22, ival 0)], 3, [5], ops1Ob (.var 0) (.var 0)⟩
def rOps1S : Sub := ⟨[.bin .add .i64 (.var 0) (.lit 1), .var 1, .var 2, .var 3], [rsS opM (.var 0)], [.cat (.var 0) (.cons (consL (rvS opM (.var 0))) .nil)], [], .ix⟩
theorem rdSubOf (ms : List Int) {s : Sub} (h1 : s.e = [.bin .add .i64 (.var 0) (.lit 1), .var 1] ++ s.e.drop 2) (h2 : s.l = [rsS ms (.var 0)]) (h3 : s.ll.getD 0 (.var 0) = .cat (.var 0) (.cons (consL (rvS ms (.var 0))) .nil)) : RdSub (rowsF ms) s :=
  ⟨fun ρ => by show ((s.e.getD 0 (.var 0)).den ρ) = _; rw [h1]; rfl, fun ρ => by show ((s.e.getD 1 (.var 1)).den ρ) = _; rw [h1]; rfl, fun ρ => by
    show rdS ((s.l.getD 0 (.var 0)).den ρ) = _
    rw [h2]
    show rdS ((rsS ms (.var 0)).den ρ) = _
    rw [rsS_den, rdS_stS]; rfl, fun ρ => by
    show (s.ll.getD 0 (.var 0)).den ρ = _
    rw [h3]
    show ρ.ll 0 ++ [(consL (rvS ms (.var 0))).den ρ] = _
    rw [consL_den, rvS_den]; rfl⟩
def rOks (s : Sub) (l : List B) : List B := .lt (.cnt (s.ll.getD 0 (.var 0))) (.lit 1073741824) :: l
theorem rOks_den {F : RdF} {s : Sub} {l : List B} (hS : RdSub F s) {ρ : Env} (hI : rdI ρ) (hlt : ρ.e 0 < ρ.e 1) (hl : ∀ b ∈ l, b.den ρ = true) : okOk ρ (rOks s l) := by
  intro b hb
  rcases List.mem_cons.1 hb with rfl | hb
  · have := hS.ll ρ
    show ltb (((ρ.sub s).ll 0).length : Nat) 1073741824 = true
    rw [this, List.length_append]
    obtain ⟨_, _, h3, _⟩ := hI
    exact ltT (by simp; omega)
  · exact hl b hb
theorem mem1 {p : B → Prop} {a : B} (h : p a) : ∀ b ∈ [a], p b := fun b hb => by
  simp only [List.mem_cons, List.not_mem_nil, or_false] at hb
  subst hb; exact h
theorem mem2 {p : B → Prop} {a c : B} (h : p a) (k : p c) : ∀ b ∈ [a, c], p b := fun b hb => by
  simp only [List.mem_cons, List.not_mem_nil, or_false] at hb
  rcases hb with rfl | rfl
  · exact h
  · exact k
theorem rdI.byt {ρ : Env} (h : rdI ρ) : Byts (rdS (ρ.l 0)).2 := h.2.2.2.1
theorem rdI.small {ρ : Env} (h : rdI ρ) : (rdS (ρ.l 0)).2.length < 536870912 := h.2.2.2.2.2
theorem byt_ns {ρ : Env} (h : rdI ρ) (m : Int) : (bytB (tlL (nsS (.lit m) (.var 0)))).den ρ = true := by
  rw [bytB_den, tlL_den, nsS_den, rdS_stS]
  exact rrN_byts (b := (rdS (ρ.l 0)).1) h.byt
def rOps1R : T LRes := .leaf ⟨.exit 0, ops1Fr, 4, ops1Ob (rwS opM lessE (.var 0)) (.cat (.var 0) (rwL opM lessE (.var 0))), rdOk⟩
theorem rOps1Head : HeadOk Pr 19 6 rOps1H rdI rOps1R :=
  HeadOk.rd hm cfP_ok (fuel := 100) (depth := 12) (osl := [4, 5]) (oob := [3, 1, 2]) (s := rOps1S) (oks := rOks rOps1S [bytB (tlL (.var 0))]) (O0 := ops1Ob (.var 0) (.var 0)) (by kernel_rfl) (rowsF opM) (fun _ _ => rfl) (rdSubOf opM rfl rfl rfl) (rowsR opM) (by kernel_rfl) (by kernel_rfl) (by kernel_rfl) fun ρ hI hlt => rOks_den (rdSubOf opM rfl rfl rfl) hI hlt (mem1 (bytB_den.2 hI.byt))
def nilSub : Sub := ⟨[.lit 0, .var 1, .var 2, .var 3, .var 4, .var 5, .var 6, .var 7], [.var 0], [.nil], [], .ix⟩
noncomputable def rOps1C : LCon := ⟨19, 6, theDs Pr 19 6, nilFrO rOps1H nilSub 5, 3, nilObO 3 [(1, rdrO (.var 0)), (2, c1O (.var 0))] nilSub 5, T.sub nilSub rOps1R⟩
theorem rOps1C_ok : LConOk Pr rOps1C := LConOk.nilO rOps1Head nilSub 5 (by kernel_rfl) (by kernel_rfl) (by kernel_rfl) (by kernel_rfl) fun ρ r hp hok => rdI_of (okOk.start (by kernel_rfl) hp hok)
/-! votes -/
/-- a vote's numbers and the state behind it. -/
def vvS (m : Int) (ms : List Int) (S : L) : List E := nvS (.lit m) S :: rvS ms (nsS (.lit m) S)
def vsS (m : Int) (ms : List Int) (S : L) : L := rsS ms (nsS (.lit m) S)
theorem vvS_den (ρ : Env) (m : Int) (ms : List Int) (S : L) : (vvS m ms S).map (E.den ρ) = (rrRow (m :: ms) (rdS (S.den ρ))).1 := by
  show (nvS (.lit m) S).den ρ :: (rvS ms (nsS (.lit m) S)).map (E.den ρ) = _
  rw [nvS_den, rvS_den, nsS_den, rdS_stS]; rfl
theorem vsS_den (ρ : Env) (m : Int) (ms : List Int) (S : L) : (vsS m ms S).den ρ = stS (rrRow (m :: ms) (rdS (S.den ρ))).2 := by
  show (rsS ms (nsS (.lit m) S)).den ρ = _
  rw [rsS_den, nsS_den, rdS_stS]; rfl
theorem rdSubV (m : Int) (ms : List Int) {s : Sub} (h1 : s.e = [.bin .add .i64 (.var 0) (.lit 1), .var 1] ++ s.e.drop 2) (h2 : s.l = [vsS m ms (.var 0)]) (h3 : s.ll.getD 0 (.var 0) = .cat (.var 0) (.cons (consL (vvS m ms (.var 0))) .nil)) : RdSub (rowsF (m :: ms)) s :=
  ⟨fun ρ => by show ((s.e.getD 0 (.var 0)).den ρ) = _; rw [h1]; rfl, fun ρ => by show ((s.e.getD 1 (.var 1)).den ρ) = _; rw [h1]; rfl, fun ρ => by
    show rdS ((s.l.getD 0 (.var 0)).den ρ) = _
    rw [h2]
    show rdS ((vsS m ms (.var 0)).den ρ) = _
    rw [vsS_den, rdS_stS]; rfl, fun ρ => by
    show (s.ll.getD 0 (.var 0)).den ρ = _
    rw [h3]
    show ρ.ll 0 ++ [(consL (vvS m ms (.var 0))).den ρ] = _
    rw [consL_den, vvS_den]; rfl⟩
def c2O (ls : LL) : Ob := ⟨.any ([ival 2, ival 3, .sl 3 0 (.lit 0) (.cnt (.var 1)) 5 true, .sl 4 0 (.lit 0) (.cnt ls) 3 true] ++ zeroI 4 ++ [nilS] ++ zeroB 32 ++ zeroI 2), true, 44⟩
def vo1Ob (S : L) (ls : LL) : List (Nat × Ob) := [(4, voO ls), (1, rdrO S), (2, c2O ls), (3, opO (.var 1))]
def rVo1H : LHead := ⟨ops1Fr ++ [(33, ival 1), (34, ival 0)], 4, [6], vo1Ob (.var 0) (.var 0)⟩
def rVo1S : Sub := ⟨[.bin .add .i64 (.var 0) (.lit 1), .var 1, .var 2, .var 3], [vsS 7 sigM (.var 0)], [.cat (.var 0) (.cons (consL (vvS 7 sigM (.var 0))) .nil), .var 1], [], .ix⟩
def rVo1R : T LRes := .leaf ⟨.exit 2, ops1Fr, 5, vo1Ob (rwS voM lessE (.var 0)) (.cat (.var 0) (rwL voM lessE (.var 0))), rdOk⟩
theorem rVo1Head : HeadOk Pr 19 10 rVo1H rdI rVo1R :=
  HeadOk.rd hm cfP_ok (fuel := 100) (depth := 12) (osl := [4, 5]) (oob := [4, 1, 2, 3]) (s := rVo1S) (oks := rOks rVo1S [bytB (tlL (nsS (.lit 7) (.var 0))), bytB (tlL (.var 0))]) (O0 := vo1Ob (.var 0) (.var 0)) (by kernel_rfl) (rowsF voM) (fun _ _ => rfl) (rdSubV 7 sigM rfl rfl rfl) (rowsR voM) (by kernel_rfl) (by kernel_rfl) (by kernel_rfl) fun ρ hI hlt => rOks_den (rdSubV 7 sigM rfl rfl rfl) hI hlt (mem2 (byt_ns hI 7) (bytB_den.2 hI.byt))
def nilSub2 : Sub := ⟨[.lit 0, .var 1, .var 2, .var 3, .var 4, .var 5, .var 6, .var 7], [.var 0], [.nil, .var 1, .var 2], [], .ix⟩
noncomputable def rVo1C : LCon := ⟨19, 10, theDs Pr 19 10, nilFrO rVo1H nilSub2 3, 4, nilObO 4 [(1, rdrO (.var 0)), (2, c2O (.var 0)), (3, opO (.var 1))] nilSub2 3, T.sub nilSub2 rVo1R⟩
theorem rVo1C_ok : LConOk Pr rVo1C := LConOk.nilO rVo1Head nilSub2 3 (by kernel_rfl) (by kernel_rfl) (by kernel_rfl) (by kernel_rfl) fun ρ r hp hok => rdI_of (okOk.start (by kernel_rfl) hp hok)
/-! boxes -/
def bxO (ls : LL) : Ob := ⟨.recs 1 (.cnt ls) (tB .u8 ls), true, 46⟩
def c3O (ls : LL) : Ob := ⟨.any ([ival 2, ival 3, .sl 3 0 (.lit 0) (.cnt (.var 1)) 5 true, .sl 4 0 (.lit 0) (.cnt (.var 2)) 3 true, ival 4, ival 5, ival 6, ival 7, .sl 5 0 (.lit 0) (.cnt ls) 1 true] ++ zeroB 32 ++ zeroI 2), true, 44⟩
def bx1Ob (S : L) (ls : LL) : List (Nat × Ob) := [(5, bxO ls), (1, rdrO S), (2, c3O ls), (3, opO (.var 1)), (4, voO (.var 2))]
def rBx1H : LHead := ⟨ops1Fr ++ [(61, ival 1), (62, ival 0)], 5, [7], bx1Ob (.var 0) (.var 0)⟩
def rBx1S : Sub := ⟨[.bin .add .i64 (.var 0) (.lit 1), .var 1, .var 2, .var 3, .var 4, .var 5, .var 6, .var 7], [bxS (.lit 300) (.var 0)], [.cat (.var 0) (.cons (bxL (.lit 300) (.var 0)) .nil), .var 1, .var 2], [], .ix⟩
theorem rBx1Sub : RdSub (boxsF 300) rBx1S :=
  ⟨fun ρ => rfl, fun ρ => rfl, fun ρ => by
    show rdS (stS (rrBox 300 (rdS (ρ.l 0))).2) = _
    rw [rdS_stS]; rfl, fun ρ => rfl⟩
def rBx1R : T LRes := .leaf ⟨.exit 6, ops1Fr, 6, bx1Ob (bxsS lessE (.var 0)) (.cat (.var 0) (bxsL lessE (.var 0))), rdOk⟩
theorem rBx1Head : HeadOk Pr 19 21 rBx1H rdI rBx1R :=
  HeadOk.rd hm cfP_ok (fuel := 100) (depth := 12) (osl := [4, 5]) (oob := [5, 1, 2, 3, 4]) (s := rBx1S) (oks := rOks rBx1S [bytB (tlL (.var 0)), small29 (tlL (.var 0))]) (O0 := bx1Ob (.var 0) (.var 0)) (by kernel_rfl) (boxsF 300) (fun _ _ => rfl) rBx1Sub boxsR (by kernel_rfl) (by kernel_rfl) (by kernel_rfl) fun ρ hI hlt => rOks_den rBx1Sub hI hlt (mem2 (bytB_den.2 hI.byt) (small29_den.2 hI.small))
def nilSub3 : Sub := ⟨[.lit 0, .var 1, .var 2, .var 3, .var 4, .var 5, .var 6, .var 7], [.var 0], [.nil, .var 1, .var 2], [], .ix⟩
noncomputable def rBx1C : LCon := ⟨19, 21, theDs Pr 19 21, nilFrO rBx1H nilSub3 1, 5, nilObO 5 [(1, rdrO (.var 0)), (2, c3O (.var 0)), (3, opO (.var 1)), (4, voO (.var 2))] nilSub3 1, T.sub nilSub3 rBx1R⟩
theorem rBx1C_ok : LConOk Pr rBx1C := LConOk.nilO rBx1Head nilSub3 1 (by kernel_rfl) (by kernel_rfl) (by kernel_rfl) (by kernel_rfl) fun ρ r hp hok => rdI_of (okOk.start (by kernel_rfl) hp hok)
end Go.Proofs.Ytlghaoohfklpnaa.E
/- The reference's loops that read operations, votes, boxes: contracts. -/
namespace Go.Proofs.Ytlghaoohfklpnaa.E
open Go Go.RowKit
set_option maxRecDepth 100000
set_option linter.unusedVariables false
noncomputable def cfCu : Cf := ⟨tabF [op2S, sig2S, num2S, take2S, take2F, hash2S] (tabC []), lpC [], noMg⟩
theorem cfCu_ok : CfOk Pr cfCu := ⟨fun ρ => tabF_ok (tabC_ok all_nil) (all_cons op2S_ok (all_cons sig2S_ok (all_cons num2S_ok (all_cons take2S_ok (all_cons take2F_ok (all_cons hash2S_ok all_nil)))))), fun ρ => lpC_ok all_nil⟩
def curO (S : L) : Ob := ⟨.any [.fs 1 (.ints .u8 (tlL S)), .bool (hdB S)], true, 135⟩
def ops2Fr : List (Nat × V) := [(4, .ptr 1 (.lit 0) 0 0), (6, .ptr 2 (.lit 0) 0 0)]
def ops2Ob (S : L) (ls : LL) : List (Nat × Ob) := [(3, opO ls), (1, curO S), (2, c1O ls)]
def rOps2H : LHead := ⟨ops2Fr ++ [(7, ival 0)], 3, [5], ops2Ob (.var 0) (.var 0)⟩
def vo2Ob (S : L) (ls : LL) : List (Nat × Ob) := [(4, voO ls), (1, curO S), (2, c2O ls), (3, opO (.var 1))]
def rVo2H : LHead := ⟨ops2Fr ++ [(8, ival 0)], 4, [7], vo2Ob (.var 0) (.var 0)⟩
def bx2Ob (S : L) (ls : LL) : List (Nat × Ob) := [(5, bxO ls), (1, curO S), (2, c3O ls), (3, opO (.var 1)), (4, voO (.var 2))]
def rBx2H : LHead := ⟨ops2Fr ++ [(11, ival 0)], 5, [7], bx2Ob (.var 0) (.var 0)⟩
def maxI : Int := 9223372036854775807
def crRF (ms : List Int) : RdF := { rowsF ms with f := crRows ms }
def crBF : RdF := { boxsF 9223372036854775807 with f := crBoxes 9223372036854775807 }
theorem rrRow_bad : ∀ (ms : List Int) (l : List Int), (rrRow ms (true, l)).2 = (true, l)
  | [], l => rfl
  | m :: ms, l => rrRow_bad ms l
theorem rrN_less (m : Int) (l : List Int) : (rrN m (false, l)).2.1 = true ∨ (rrN m (false, l)).2.2.length < l.length := by
  rw [rrN_f]
  split
  · exact .inl rfl
  · split
    · exact .inl rfl
    · refine .inr ?_
      simp only [List.length_drop]; omega
theorem rrRow_less (m : Int) (ms : List Int) (l : List Int) : (rrRow (m :: ms) (false, l)).2.1 = true ∨ (rrRow (m :: ms) (false, l)).2.2.length < l.length := by
  show (rrRow ms (rrN m (false, l)).2).2.1 = true ∨ (rrRow ms (rrN m (false, l)).2).2.2.length < l.length
  rcases rrN_less m l with h | h
  · left
    have e : (rrN m (false, l)).2 = (true, (rrN m (false, l)).2.2) := by rw [← h]
    rw [e, rrRow_bad]
  · exact .inr (Nat.lt_of_le_of_lt (rrRow_shr ms _) h)
theorem rrBox_less (m : Int) (l : List Int) : (rrBox m (false, l)).2.1 = true ∨ (rrBox m (false, l)).2.2.length < l.length := by
  show (rrT _ (rrN m (false, l)).2).2.1 = true ∨ (rrT _ (rrN m (false, l)).2).2.2.length < l.length
  rcases rrN_less m l with h | h
  · left
    have e : (rrN m (false, l)).2 = (true, (rrN m (false, l)).2.2) := by rw [← h]
    rw [e]; rfl
  · exact .inr (Nat.lt_of_le_of_lt (rrT_shr _ _).1 h)
def cwL (ms : List Int) (n : E) (S : L) : LL := .app 67 (.cons n S) (msL ms)
def cwS (ms : List Int) (n : E) (S : L) : L := .app 68 (.cons n S) (msL ms)
theorem cwL_den (ρ : Env) (ms : List Int) (n : E) (S : L) : (cwL ms n S).den ρ = (crRows ms (n.den ρ).toNat (rdS (S.den ρ))).1 := by
  show (crRows (((msL ms).den ρ).getD 0 []) (n.den ρ).toNat (rdS (S.den ρ))).1 = _
  rw [msL_den]; rfl
theorem cwS_den (ρ : Env) (ms : List Int) (n : E) (S : L) : (cwS ms n S).den ρ = stS (crRows ms (n.den ρ).toNat (rdS (S.den ρ))).2 := by
  show stS (crRows (((msL ms).den ρ).getD 0 []) (n.den ρ).toNat (rdS (S.den ρ))).2 = _
  rw [msL_den]; rfl
def cxL (n : E) (S : L) : LL := .app 71 (.cons n S) .nil
def cxS (n : E) (S : L) : L := .app 72 (.cons n S) .nil
theorem crRowsR (ms : List Int) : RdR crI (crRF ms) (fun ρ => (ρ.e 0).toNat) (cwS ms (.var 0) (.var 0)) (.cat (.var 0) (cwL ms (.var 0) (.var 0))) :=
  ⟨fun ρ h => by rw [cwS_den, rdS_stS]; rfl, fun ρ h => by show ρ.ll 0 ++ (cwL ms (.var 0) (.var 0)).den ρ = _; rw [cwL_den]; rfl⟩
theorem crBoxR : RdR crI crBF (fun ρ => (ρ.e 0).toNat) (cxS (.var 0) (.var 0)) (.cat (.var 0) (cxL (.var 0) (.var 0))) :=
  ⟨fun ρ h => by
    show rdS (stS (crBoxes 9223372036854775807 (ρ.e 0).toNat (rdS (ρ.l 0))).2) = _
    rw [rdS_stS]; rfl, fun ρ h => rfl⟩
def crOks (s : Sub) (l : List B) : List B := .lt (.cnt (s.ll.getD 0 (.var 0))) (.lit 1073741824) :: l
theorem crOks_den {F : RdF} {s : Sub} {l : List B} (hS : CrSub F s) {ρ : Env} (hI : crI ρ) (hb : (rdS (ρ.l 0)).1 = false) (hl : ∀ b ∈ l, b.den ρ = true) : okOk ρ (crOks s l) := by
  intro b h
  rcases List.mem_cons.1 h with rfl | h
  · have := hS.ll ρ
    show ltb (((ρ.sub s).ll 0).length : Nat) 1073741824 = true
    rw [this, List.length_append]
    obtain ⟨_, h3 | h3⟩ := hI
    · exact ltT (by simp; omega)
    · rw [hb] at h3; cases h3.1
  · exact hl b h
theorem crI.byt {ρ : Env} (h : crI ρ) : Byts (rdS (ρ.l 0)).2 := h.1.1
theorem crI.small {ρ : Env} (h : crI ρ) : (rdS (ρ.l 0)).2.length < 536870912 := h.1.2.1
theorem crByt_ns {ρ : Env} (h : crI ρ) (m : Int) : (bytB (tlL (nsS (.lit m) (.var 0)))).den ρ = true := by
  rw [bytB_den, tlL_den, nsS_den, rdS_stS]
  exact rrN_byts (b := (rdS (ρ.l 0)).1) h.byt
theorem crSm_ns {ρ : Env} (h : crI ρ) (m : Int) : (small29 (tlL (nsS (.lit m) (.var 0)))).den ρ = true := by
  rw [small29_den, tlL_den, nsS_den, rdS_stS]
  exact Nat.lt_of_le_of_lt (rrN_shr _ _) h.small
def anyR (k : Nat) : List Int := List.replicate k 9223372036854775807
def rOps2S : Sub := ⟨[.bin .sub .i64 (.var 0) (.lit 1), .lit 0, .var 2, .var 3], [rsS (anyM 5) (.var 0)], [.cat (.var 0) (.cons (consL (rvS (anyM 5) (.var 0))) .nil)], [], .ix⟩
theorem rOps2Sub : CrSub (crRF (anyM 5)) rOps2S :=
  ⟨fun ρ => rfl, fun ρ => by
    show rdS ((rsS (anyM 5) (.var 0)).den ρ) = _
    rw [rsS_den, rdS_stS]; rfl, fun ρ => by
    show ρ.ll 0 ++ [(consL (rvS (anyM 5) (.var 0))).den ρ] = _
    rw [consL_den, rvS_den]; rfl⟩
def rOps2R : T LRes := .leaf ⟨.exit 0, ops2Fr, 4, ops2Ob (cwS (anyM 5) (.var 0) (.var 0)) (.cat (.var 0) (cwL (anyM 5) (.var 0) (.var 0))), crOk⟩
theorem no_ok (ρ : Env) : okOk ρ [] := fun b hb => by cases hb
theorem rOps2Head : HeadOk Pr 31 6 rOps2H crI rOps2R :=
  HeadOk.cr hm cfCu_ok (fuel := 100) (depth := 12) (osl := [4, 6]) (oob := [3, 1, 2]) (s := rOps2S) (oks := crOks rOps2S [bytB (tlL (.var 0))]) (oka := []) (O0 := ops2Ob (.var 0) (.var 0)) (by kernel_rfl) (crRF (anyM 5)) (fun _ _ => rfl) (fun l _ => rrRow_less _ _ l) rOps2Sub (crRowsR (anyM 5)) (by kernel_rfl) (by kernel_rfl) (by kernel_rfl) (fun ρ _ => no_ok ρ) fun ρ hI hb => crOks_den rOps2Sub hI hb (mem1 (bytB_den.2 hI.byt))
def nilSubC : Sub := ⟨[.var 0, .var 1, .var 2, .var 3, .var 4, .var 5, .var 6, .var 7], [.var 0], [.nil, .var 1, .var 2], [], .ix⟩
noncomputable def rOps2C : LCon := ⟨31, 6, theDs Pr 31 6, nilFrO rOps2H nilSubC 5, 3, nilObO 3 [(1, curO (.var 0)), (2, c1O (.var 0))] nilSubC 5, T.sub nilSubC rOps2R⟩
theorem rOps2C_ok : LConOk Pr rOps2C := LConOk.nilO rOps2Head nilSubC 5 (by kernel_rfl) (by kernel_rfl) (by kernel_rfl) (by kernel_rfl) fun ρ r hp hok => crI_of (okOk.start (by kernel_rfl) hp hok)
def rVo2S : Sub := ⟨[.bin .sub .i64 (.var 0) (.lit 1), .lit 0, .var 2, .var 3], [vsS 9223372036854775807 (anyM 2) (.var 0)], [.cat (.var 0) (.cons (consL (vvS 9223372036854775807 (anyM 2) (.var 0))) .nil), .var 1], [], .ix⟩
theorem rVo2Sub : CrSub (crRF (anyM 3)) rVo2S :=
  ⟨fun ρ => rfl, fun ρ => by
    show rdS ((vsS 9223372036854775807 (anyM 2) (.var 0)).den ρ) = _
    rw [vsS_den, rdS_stS]; rfl, fun ρ => by
    show ρ.ll 0 ++ [(consL (vvS 9223372036854775807 (anyM 2) (.var 0))).den ρ] = _
    rw [consL_den, vvS_den]; rfl⟩
def rVo2R : T LRes := .leaf ⟨.exit 2, ops2Fr, 5, vo2Ob (cwS (anyM 3) (.var 0) (.var 0)) (.cat (.var 0) (cwL (anyM 3) (.var 0) (.var 0))), crOk⟩
theorem rVo2Head : HeadOk Pr 31 10 rVo2H crI rVo2R :=
  HeadOk.cr hm cfCu_ok (fuel := 100) (depth := 12) (osl := [4, 6]) (oob := [4, 1, 2, 3]) (s := rVo2S) (oks := crOks rVo2S [bytB (tlL (nsS (.lit 9223372036854775807) (.var 0))), bytB (tlL (.var 0))]) (oka := []) (O0 := vo2Ob (.var 0) (.var 0)) (by kernel_rfl) (crRF (anyM 3)) (fun _ _ => rfl) (fun l _ => rrRow_less _ _ l) rVo2Sub (crRowsR (anyM 3)) (by kernel_rfl) (by kernel_rfl) (by kernel_rfl) (fun ρ _ => no_ok ρ) fun ρ hI hb => crOks_den rVo2Sub hI hb (mem2 (crByt_ns hI _) (bytB_den.2 hI.byt))
noncomputable def rVo2C : LCon := ⟨31, 10, theDs Pr 31 10, nilFrO rVo2H nilSubC 3, 4, nilObO 4 [(1, curO (.var 0)), (2, c2O (.var 0)), (3, opO (.var 1))] nilSubC 3, T.sub nilSubC rVo2R⟩
theorem rVo2C_ok : LConOk Pr rVo2C := LConOk.nilO rVo2Head nilSubC 3 (by kernel_rfl) (by kernel_rfl) (by kernel_rfl) (by kernel_rfl) fun ρ r hp hok => crI_of (okOk.start (by kernel_rfl) hp hok)
/-! boxes -/
def tbL (S : L) : L := tkE (nvS (.lit 9223372036854775807) S) (nsS (.lit 9223372036854775807) S)
def tbS (S : L) : L := tkS (nvS (.lit 9223372036854775807) S) (nsS (.lit 9223372036854775807) S)
theorem tbL_den (ρ : Env) (S : L) : (tbL S).den ρ = (rrBox 9223372036854775807 (rdS (S.den ρ))).1 := by
  unfold tbL
  rw [tkE_den, nvS_den, nsS_den, rdS_stS]; rfl
theorem tbS_den (ρ : Env) (S : L) : (tbS S).den ρ = stS (rrBox 9223372036854775807 (rdS (S.den ρ))).2 := by
  unfold tbS
  rw [tkS_den, nvS_den, nsS_den, rdS_stS]; rfl
def rBx2S : Sub := ⟨[.bin .sub .i64 (.var 0) (.lit 1), .lit 0, .var 2, .var 3, .var 4, .var 5, .var 6, .var 7], [tbS (.var 0)], [.cat (.var 0) (.cons (tbL (.var 0)) .nil), .var 1, .var 2], [], .ix⟩
theorem rBx2Sub : CrSub crBF rBx2S :=
  ⟨fun ρ => rfl, fun ρ => by
    show rdS ((tbS (.var 0)).den ρ) = _
    rw [tbS_den, rdS_stS]; rfl, fun ρ => by
    show ρ.ll 0 ++ [(tbL (.var 0)).den ρ] = _
    rw [tbL_den]; rfl⟩
def rBx2R : T LRes := .leaf ⟨.exit 6, ops2Fr, 6, bx2Ob (cxS (.var 0) (.var 0)) (.cat (.var 0) (cxL (.var 0) (.var 0))), crOk⟩
theorem rBx2Head : HeadOk Pr 31 21 rBx2H crI rBx2R :=
  HeadOk.cr hm cfCu_ok (fuel := 100) (depth := 12) (osl := [4, 6]) (oob := [5, 1, 2, 3, 4]) (s := rBx2S) (oks := crOks rBx2S [small29 (tlL (nsS (.lit 9223372036854775807) (.var 0))), bytB (tlL (.var 0))]) (oka := []) (O0 := bx2Ob (.var 0) (.var 0)) (by kernel_rfl) crBF (fun _ _ => rfl) (fun l _ => rrBox_less _ l) rBx2Sub crBoxR (by kernel_rfl) (by kernel_rfl) (by kernel_rfl) (fun ρ _ => no_ok ρ) fun ρ hI hb => crOks_den rBx2Sub hI hb (mem2 (crSm_ns hI _) (bytB_den.2 hI.byt))
noncomputable def rBx2C : LCon := ⟨31, 21, theDs Pr 31 21, nilFrO rBx2H nilSubC 1, 5, nilObO 5 [(1, curO (.var 0)), (2, c3O (.var 0)), (3, opO (.var 1)), (4, voO (.var 2))] nilSubC 1, T.sub nilSubC rBx2R⟩
theorem rBx2C_ok : LConOk Pr rBx2C := LConOk.nilO rBx2Head nilSubC 1 (by kernel_rfl) (by kernel_rfl) (by kernel_rfl) (by kernel_rfl) fun ρ r hp hok => crI_of (okOk.start (by kernel_rfl) hp hok)
end Go.Proofs.Ytlghaoohfklpnaa.E
/- Commits read, by the program and by the reference: one contract. -/
namespace Go.Proofs.Ytlghaoohfklpnaa.E
open Go Go.RowKit
set_option maxRecDepth 100000
set_option linter.unusedVariables false
/-! ### what a commit's reading gives, in letters -/
structure LE where
  M : Lim
  nn : E → E
  oL : E → L → LL
  oS : E → L → L
  vL : E → L → LL
  vS : E → L → L
  xL : E → L → LL
  xS : E → L → L
def lP : LE := ⟨limP, fun n => .bin .sub .i64 n (.lit 0), rwL opM, rwS opM, rwL voM, rwS voM, bxsL, bxsS⟩
def lR : LE := ⟨limR, fun n => n, cwL (anyM 5), cwS (anyM 5), cwL (anyM 3), cwS (anyM 3), cxL, cxS⟩
def xS0 : L := .cons (.lit 0) (.var 0)
def LE.s1 (X : LE) : L := tkS (.lit 1) xS0
def LE.s2 (X : LE) : L := nsS (.lit X.M.e) X.s1
def LE.s3 (X : LE) : L := nsS (.lit X.M.f) X.s2
def LE.n1 (X : LE) : E := nvS (.lit X.M.n1) X.s3
def LE.s4 (X : LE) : L := nsS (.lit X.M.n1) X.s3
def LE.r4 (X : LE) : LL := X.oL (X.nn X.n1) X.s4
def LE.s5 (X : LE) : L := X.oS (X.nn X.n1) X.s4
def LE.n2 (X : LE) : E := nvS (.lit X.M.n2) X.s5
def LE.s6 (X : LE) : L := nsS (.lit X.M.n2) X.s5
def LE.r6 (X : LE) : LL := X.vL (X.nn X.n2) X.s6
def LE.s7 (X : LE) : L := X.vS (X.nn X.n2) X.s6
def LE.s8 (X : LE) : L := nsS (.lit X.M.p) X.s7
def LE.s9 (X : LE) : L := nsS (.lit X.M.p) X.s8
def LE.s10 (X : LE) : L := nsS (.lit X.M.p) X.s9
def LE.s11 (X : LE) : L := nsS (.lit X.M.p) X.s10
def LE.n3 (X : LE) : E := nvS (.lit X.M.n3) X.s11
def LE.s12 (X : LE) : L := nsS (.lit X.M.n3) X.s11
def LE.r12 (X : LE) : LL := X.xL (X.nn X.n3) X.s12
def LE.s13 (X : LE) : L := X.xS (X.nn X.n3) X.s12
def LE.s14 (X : LE) : L := tkS (.lit 32) X.s13
def LE.s15 (X : LE) : L := rsS X.M.sig X.s14
/-- a commit's letters. -/
def LE.sub (X : LE) : Sub := ⟨[nvS (.lit X.M.e) X.s1, nvS (.lit X.M.f) X.s2, nvS (.lit X.M.p) X.s7, nvS (.lit X.M.p) X.s8, nvS (.lit X.M.p) X.s9, nvS (.lit X.M.p) X.s10, .get (.app 64 X.s14 (msL X.M.sig)) (.lit 0), .get (.app 64 X.s14 (msL X.M.sig)) (.lit 1)], [.app 77 X.s13 .nil], [X.r4, X.r6, X.r12], [], .ix⟩
structure LE.Ok (X : LE) : Prop where
  o : ∀ (ρ : Env) n S, (X.oL n S).den ρ = (X.M.ops (n.den ρ).toNat (rdS (S.den ρ))).1 ∧ rdS ((X.oS n S).den ρ) = (X.M.ops (n.den ρ).toNat (rdS (S.den ρ))).2
  v : ∀ (ρ : Env) n S, (X.vL n S).den ρ = (X.M.vos (n.den ρ).toNat (rdS (S.den ρ))).1 ∧ rdS ((X.vS n S).den ρ) = (X.M.vos (n.den ρ).toNat (rdS (S.den ρ))).2
  x : ∀ (ρ : Env) n S, (X.xL n S).den ρ = (X.M.bxs (n.den ρ).toNat (rdS (S.den ρ))).1 ∧ rdS ((X.xS n S).den ρ) = (X.M.bxs (n.den ρ).toNat (rdS (S.den ρ))).2
  nn : ∀ (ρ : Env) n, IntKind.i64.wrap (n.den ρ) = n.den ρ → (X.nn n).den ρ = n.den ρ
theorem lP_ok : lP.Ok := ⟨fun ρ n S => ⟨rwL_den .., by show rdS ((rwS opM n S).den ρ) = _; rw [rwS_den, rdS_stS]; rfl⟩, fun ρ n S => ⟨rwL_den .., by show rdS ((rwS voM n S).den ρ) = _; rw [rwS_den, rdS_stS]; rfl⟩, fun ρ n S => ⟨rfl, by show rdS (stS _) = _; rw [rdS_stS]; rfl⟩, fun ρ n h => by
  show IntKind.i64.wrap (n.den ρ - 0) = _
  rw [Int.sub_zero, h]⟩
theorem lR_ok : lR.Ok := ⟨fun ρ n S => ⟨cwL_den .., by show rdS ((cwS (anyM 5) n S).den ρ) = _; rw [cwS_den, rdS_stS]; rfl⟩, fun ρ n S => ⟨cwL_den .., by show rdS ((cwS (anyM 3) n S).den ρ) = _; rw [cwS_den, rdS_stS]; rfl⟩, fun ρ n S => ⟨rfl, by show rdS (stS _) = _; rw [rdS_stS]; rfl⟩, fun ρ n h => rfl⟩
theorem ns_rd (ρ : Env) (m : Int) (S : L) : rdS ((nsS (.lit m) S).den ρ) = (rrN m (rdS (S.den ρ))).2 := by rw [nsS_den, rdS_stS]; rfl
theorem nv_wr (ρ : Env) (m : Int) (S : L) : IntKind.i64.wrap ((nvS (.lit m) S).den ρ) = (nvS (.lit m) S).den ρ := by rw [nvS_den, rrN_wrap]
theorem xS0_rd (ρ : Env) : rdS (xS0.den ρ) = (false, ρ.l 0) := rfl
theorem tk_den (ρ : Env) : (tkE (.lit 1) xS0).den ρ = (rrT 1 (false, ρ.l 0)).1 := by rw [tkE_den, xS0_rd]; rfl
/-- all states. -/
structure LE.St (X : LE) (ρ : Env) : Prop where
  s1 : rdS (X.s1.den ρ) = (rrT 1 (false, ρ.l 0)).2
  s2 : rdS (X.s2.den ρ) = (rrN X.M.e (rdS (X.s1.den ρ))).2
  s3 : rdS (X.s3.den ρ) = (rrN X.M.f (rdS (X.s2.den ρ))).2
  s4 : rdS (X.s4.den ρ) = (rrN X.M.n1 (rdS (X.s3.den ρ))).2
  r4 : X.r4.den ρ = (X.M.ops (rrN X.M.n1 (rdS (X.s3.den ρ))).1.toNat (rdS (X.s4.den ρ))).1
  s5 : rdS (X.s5.den ρ) = (X.M.ops (rrN X.M.n1 (rdS (X.s3.den ρ))).1.toNat (rdS (X.s4.den ρ))).2
  s6 : rdS (X.s6.den ρ) = (rrN X.M.n2 (rdS (X.s5.den ρ))).2
  r6 : X.r6.den ρ = (X.M.vos (rrN X.M.n2 (rdS (X.s5.den ρ))).1.toNat (rdS (X.s6.den ρ))).1
  s7 : rdS (X.s7.den ρ) = (X.M.vos (rrN X.M.n2 (rdS (X.s5.den ρ))).1.toNat (rdS (X.s6.den ρ))).2
  s8 : rdS (X.s8.den ρ) = (rrN X.M.p (rdS (X.s7.den ρ))).2
  s9 : rdS (X.s9.den ρ) = (rrN X.M.p (rdS (X.s8.den ρ))).2
  s10 : rdS (X.s10.den ρ) = (rrN X.M.p (rdS (X.s9.den ρ))).2
  s11 : rdS (X.s11.den ρ) = (rrN X.M.p (rdS (X.s10.den ρ))).2
  s12 : rdS (X.s12.den ρ) = (rrN X.M.n3 (rdS (X.s11.den ρ))).2
  r12 : X.r12.den ρ = (X.M.bxs (rrN X.M.n3 (rdS (X.s11.den ρ))).1.toNat (rdS (X.s12.den ρ))).1
  s13 : rdS (X.s13.den ρ) = (X.M.bxs (rrN X.M.n3 (rdS (X.s11.den ρ))).1.toNat (rdS (X.s12.den ρ))).2
  s14 : rdS (X.s14.den ρ) = (rrT 32 (rdS (X.s13.den ρ))).2
  s15 : rdS (X.s15.den ρ) = (rrRow X.M.sig (rdS (X.s14.den ρ))).2
theorem LE.n1d {X : LE} (h : X.Ok) (ρ : Env) : (X.nn X.n1).den ρ = (rrN X.M.n1 (rdS (X.s3.den ρ))).1 := (h.nn ρ X.n1 (nv_wr ρ _ _)).trans (nvS_den ρ _ _)
theorem LE.n2d {X : LE} (h : X.Ok) (ρ : Env) : (X.nn X.n2).den ρ = (rrN X.M.n2 (rdS (X.s5.den ρ))).1 := (h.nn ρ X.n2 (nv_wr ρ _ _)).trans (nvS_den ρ _ _)
theorem LE.n3d {X : LE} (h : X.Ok) (ρ : Env) : (X.nn X.n3).den ρ = (rrN X.M.n3 (rdS (X.s11.den ρ))).1 := (h.nn ρ X.n3 (nv_wr ρ _ _)).trans (nvS_den ρ _ _)
theorem LE.st {X : LE} (h : X.Ok) (ρ : Env) : X.St ρ where
  s1 := by unfold LE.s1; rw [tkS_den, rdS_stS, xS0_rd]; rfl
  s2 := ns_rd ..
  s3 := ns_rd ..
  s4 := ns_rd ..
  r4 := by unfold LE.r4; rw [(h.o ρ _ _).1, LE.n1d h ρ]
  s5 := by unfold LE.s5; rw [(h.o ρ _ _).2, LE.n1d h ρ]
  s6 := ns_rd ..
  r6 := by unfold LE.r6; rw [(h.v ρ _ _).1, LE.n2d h ρ]
  s7 := by unfold LE.s7; rw [(h.v ρ _ _).2, LE.n2d h ρ]
  s8 := ns_rd ..
  s9 := ns_rd ..
  s10 := ns_rd ..
  s11 := ns_rd ..
  s12 := ns_rd ..
  r12 := by unfold LE.r12; rw [(h.x ρ _ _).1, LE.n3d h ρ]
  s13 := by unfold LE.s13; rw [(h.x ρ _ _).2, LE.n3d h ρ]
  s14 := by unfold LE.s14; rw [tkS_den, rdS_stS]; rfl
  s15 := by unfold LE.s15; rw [rsS_den, rdS_stS]
theorem LE.dec_eq {X : LE} {ρ : Env} (h : X.St ρ) : dec X.M (ρ.l 0) = (⟨(rrN X.M.e (rdS (X.s1.den ρ))).1, (rrN X.M.f (rdS (X.s2.den ρ))).1, (rrN X.M.p (rdS (X.s7.den ρ))).1, (rrN X.M.p (rdS (X.s8.den ρ))).1, (rrN X.M.p (rdS (X.s9.den ρ))).1, (rrN X.M.p (rdS (X.s10.den ρ))).1,
    (rrRow X.M.sig (rdS (X.s14.den ρ))).1.getD 0 0, (rrRow X.M.sig (rdS (X.s14.den ρ))).1.getD 1 0, pad32 (rrT 32 (rdS (X.s13.den ρ))).1, X.r4.den ρ, X.r6.den ρ, X.r12.den ρ⟩, rdS (X.s15.den ρ)) := by
  unfold dec
  simp only
  rw [← h.s1, ← h.s2, ← h.s3, ← h.s4, ← h.s5, ← h.r4, ← h.s6, ← h.s7, ← h.r6, ← h.s8, ← h.s9, ← h.s10, ← h.s11, ← h.s12, ← h.s13, ← h.r12, ← h.s14, ← h.s15]
/-- the commit that letters stand for. -/
def cmOf (ρ : Env) : Cm := ⟨ρ.e 0, ρ.e 1, ρ.e 2, ρ.e 3, ρ.e 4, ρ.e 5, ρ.e 6, ρ.e 7, ρ.l 0, ρ.ll 0, ρ.ll 1, ρ.ll 2⟩
theorem E.den_get (ρ : Env) (l : L) (i : E) : (E.get l i).den ρ = (l.den ρ).getD (i.den ρ).toNat 0 := by simp only [E.den]
theorem E.den_lit (ρ : Env) (n : Int) : (E.lit n).den ρ = n := by simp only [E.den]
theorem envE {ρ : Env} {s : Sub} {i : Nat} {a : E} (h : s.e[i]? = some a) : (ρ.sub s).e i = a.den ρ := by
  show (s.e.getD i (.var i)).den ρ = _
  rw [List.getD, h]; rfl
theorem envL {ρ : Env} {s : Sub} {i : Nat} {a : L} (h : s.l[i]? = some a) : (ρ.sub s).l i = a.den ρ := by
  show (s.l.getD i (.var i)).den ρ = _
  rw [List.getD, h]; rfl
theorem envLL {ρ : Env} {s : Sub} {i : Nat} {a : LL} (h : s.ll[i]? = some a) : (ρ.sub s).ll i = a.den ρ := by
  show (s.ll.getD i (.var i)).den ρ = _
  rw [List.getD, h]; rfl
theorem LE.cm {X : LE} {ρ : Env} (h : X.St ρ) : cmOf (ρ.sub X.sub) = (dec X.M (ρ.l 0)).1 := by
  have e1 : (L.app 64 X.s14 (msL X.M.sig)).den ρ = (rrRow X.M.sig (rdS (X.s14.den ρ))).1 := by
    show ((rrRow (((msL X.M.sig).den ρ).getD 0 []) (rdS (X.s14.den ρ))).1).map IntKind.i64.wrap = _
    rw [msL_den]
    exact rrRow_wrap _ _
  have e2 : (L.app 77 X.s13 .nil).den ρ = pad32 (rrT 32 (rdS (X.s13.den ρ))).1 := rfl
  have f0 : cmOf (ρ.sub X.sub) = ⟨(nvS (.lit X.M.e) X.s1).den ρ, (nvS (.lit X.M.f) X.s2).den ρ, (nvS (.lit X.M.p) X.s7).den ρ, (nvS (.lit X.M.p) X.s8).den ρ, (nvS (.lit X.M.p) X.s9).den ρ, (nvS (.lit X.M.p) X.s10).den ρ, ((L.app 64 X.s14 (msL X.M.sig)).den ρ).getD 0 0, ((L.app 64 X.s14 (msL X.M.sig)).den ρ).getD 1 0, (L.app 77 X.s13 .nil).den ρ, X.r4.den ρ, X.r6.den ρ, X.r12.den ρ⟩ := by
    unfold cmOf
    rw [envE (s := X.sub) (i := 0) rfl, envE (s := X.sub) (i := 1) rfl, envE (s := X.sub) (i := 2) rfl, envE (s := X.sub) (i := 3) rfl, envE (s := X.sub) (i := 4) rfl, envE (s := X.sub) (i := 5) rfl, envE (s := X.sub) (i := 6) rfl, envE (s := X.sub) (i := 7) rfl, envL (s := X.sub) (i := 0) rfl, envLL (s := X.sub) (i := 0) rfl, envLL (s := X.sub) (i := 1) rfl, envLL (s := X.sub) (i := 2) rfl]
    simp only [E.den_get, E.den_lit]
    rfl
  rw [f0, e1, e2, LE.dec_eq h]
  simp only [nvS_den, E.den_lit]
/-! ### the contract -/
def dE (i : Nat) : E := .get (.app 80 (.var 0) .nil) (.lit (.ofNat i))
def decS : Sub := ⟨[dE 0, dE 1, dE 2, dE 3, dE 4, dE 5, dE 6, dE 7], [.app 81 (.var 0) .nil], [.app 82 (.var 0) .nil, .app 83 (.var 0) .nil, .app 85 (.var 0) .nil], [], .ix⟩
def decB : B := .eq (.get (.app 84 (.var 0) .nil) (.lit 0)) (.lit 1)
theorem cutJ_id {n : Nat} {l : List Int} (h : l.length = n) : cutJ n l = l := range_getD (d := (0 : Int)) l n h
theorem J84 (a : List Int) : J 84 a [] = [fl (decOk a)] := by
  show cutJ 1 (J0 84 a []) = _
  rw [show J0 84 a [] = [fl (decOk a)] from rfl]
  exact cutJ_id rfl
theorem decB_den (ρ : Env) : decB.den ρ = decOk (ρ.l 0) := by
  show eqb ((J 84 (ρ.l 0) []).getD 0 0) 1 = _
  rw [J84, List.getD_cons_zero]
  generalize decOk (ρ.l 0) = b
  exact fl_eq b
def zeroCs : List V := [.int .i64 (.lit 0), .int .i64 (.lit 0), nilS, nilS] ++ zeroI 4 ++ [nilS] ++ zeroB 32 ++ zeroI 2
def zeroV : V := .tup [.agg zeroCs, .int .i64 (.lit 2)]
def goodV : V := .tup [commitA, .int .i64 (.lit 0)]
def preC : List B := [bytB (.var 0), small29 (.var 0)]
def toCT : T FRes := .br decB (.leaf ⟨goodV.sub decS, 0, [], preC⟩) (.leaf ⟨zeroV, 0, [], preC⟩)
def toCF (f : FuncId) : FCon := ⟨f, [.fs 1 (.ints .u8 (.var 0))], 0, [], toCT⟩
theorem wrap8_wrap8 (x : Int) : IntKind.u8.wrap (IntKind.u8.wrap x) = IntKind.u8.wrap x := by rw [wrap8I, wrap8I]; omega
theorem pad32_pad32 (l : List Int) : cutJ 32 ((pad32 l).map IntKind.u8.wrap) = pad32 l := by
  unfold pad32 cutJ
  rw [List.map_map]
  refine List.map_congr_left fun i hi => ?_
  have hi := List.mem_range.1 hi
  simp only [List.getD, Function.comp, List.getElem?_map, List.getElem?_range hi, Option.map_some, Option.getD_some]
  cases l[i]? with
  | none => rfl
  | some x => exact wrap8_wrap8 x
theorem row2 (a b : Int) (s : Rd) : ∃ s', (rrRow [a, b] s).1 = [(rrN a s).1, (rrN b s').1] := ⟨(rrN a s).2, rfl⟩
theorem J80 (a : List Int) : J 80 a [] = ([(dec limP a).1.e, (dec limP a).1.f, (dec limP a).1.p, (dec limP a).1.p0, (dec limP a).1.p1, (dec limP a).1.p2, (dec limP a).1.sE, (dec limP a).1.sS]).map IntKind.i64.wrap := by
  show cutJ 8 ((J0 80 a []).map IntKind.i64.wrap) = _
  rw [show J0 80 a [] = [(dec limP a).1.e, (dec limP a).1.f, (dec limP a).1.p, (dec limP a).1.p0, (dec limP a).1.p1, (dec limP a).1.p2, (dec limP a).1.sE, (dec limP a).1.sS] from rfl]
  exact cutJ_id rfl
theorem decS_cm (ρ : Env) : cmOf (ρ.sub decS) = (dec limP (ρ.l 0)).1 := by
  have h0 : cmOf (ρ.sub decS) = ⟨((L.app 80 (.var 0) .nil).den ρ).getD 0 0, ((L.app 80 (.var 0) .nil).den ρ).getD 1 0, ((L.app 80 (.var 0) .nil).den ρ).getD 2 0, ((L.app 80 (.var 0) .nil).den ρ).getD 3 0, ((L.app 80 (.var 0) .nil).den ρ).getD 4 0, ((L.app 80 (.var 0) .nil).den ρ).getD 5 0, ((L.app 80 (.var 0) .nil).den ρ).getD 6 0, ((L.app 80 (.var 0) .nil).den ρ).getD 7 0, (L.app 81 (.var 0) .nil).den ρ, (LL.app 82 (.var 0) .nil).den ρ, (LL.app 83 (.var 0) .nil).den ρ, (LL.app 85 (.var 0) .nil).den ρ⟩ := by
    unfold cmOf
    rw [envE (s := decS) (i := 0) rfl, envE (s := decS) (i := 1) rfl, envE (s := decS) (i := 2) rfl, envE (s := decS) (i := 3) rfl, envE (s := decS) (i := 4) rfl, envE (s := decS) (i := 5) rfl, envE (s := decS) (i := 6) rfl, envE (s := decS) (i := 7) rfl, envL (s := decS) (i := 0) rfl, envLL (s := decS) (i := 0) rfl, envLL (s := decS) (i := 1) rfl, envLL (s := decS) (i := 2) rfl]
    unfold dE
    simp only [E.den_get, E.den_lit]
    rfl
  have h1 : (L.app 80 (.var 0) .nil).den ρ = J 80 (ρ.l 0) [] := rfl
  have h2 : (L.app 81 (.var 0) .nil).den ρ = cutJ 32 ((dec limP (ρ.l 0)).1.tag.map IntKind.u8.wrap) := rfl
  have h3 : (LL.app 82 (.var 0) .nil).den ρ = (dec limP (ρ.l 0)).1.ops := rfl
  have h4 : (LL.app 83 (.var 0) .nil).den ρ = (dec limP (ρ.l 0)).1.vos := rfl
  have h5 : (LL.app 85 (.var 0) .nil).den ρ = (dec limP (ρ.l 0)).1.bxs := rfl
  rw [h0, h1, J80, h2, h3, h4, h5]
  have hd : dec limP (ρ.l 0) = _ := LE.dec_eq (LE.st lP_ok ρ)
  obtain ⟨s', hs'⟩ := row2 1073741788 1073741788 (rdS (lP.s14.den ρ))
  have hs' : (rrRow lP.M.sig (rdS (lP.s14.den ρ))).1 = [(rrN 1073741788 (rdS (lP.s14.den ρ))).1, (rrN 1073741788 s').1] := hs'
  rw [hs'] at hd
  rw [hd]
  simp only [List.map_cons, List.map_nil, List.getD_cons_zero, List.getD_cons_succ, rrN_wrap, pad32_pad32]
theorem env_eq {ρ : Env} {X : LE} (h : cmOf (ρ.sub X.sub) = cmOf (ρ.sub decS)) : ρ.sub X.sub = ρ.sub decS := by
  unfold cmOf at h
  injection h with h0 h1 h2 h3 h4 h5 h6 h7 h8 h9 h10 h11
  have e : (ρ.sub X.sub).e = (ρ.sub decS).e := by
    funext i
    match i with
    | 0 => exact h0
    | 1 => exact h1
    | 2 => exact h2
    | 3 => exact h3
    | 4 => exact h4
    | 5 => exact h5
    | 6 => exact h6
    | 7 => exact h7
    | i + 8 => rfl
  have l : (ρ.sub X.sub).l = (ρ.sub decS).l := by
    funext i
    match i with
    | 0 => exact h8
    | i + 1 => rfl
  have ll : (ρ.sub X.sub).ll = (ρ.sub decS).ll := by
    funext i
    match i with
    | 0 => exact h9
    | 1 => exact h10
    | 2 => exact h11
    | i + 3 => rfl
  have b : (ρ.sub X.sub).b = (ρ.sub decS).b := rfl
  have ix : (ρ.sub X.sub).ix = (ρ.sub decS).ix := rfl
  cases h1 : ρ.sub X.sub with
  | mk a1 a2 a3 a4 a5 =>
    cases h2 : ρ.sub decS with
    | mk b1 b2 b3 b4 b5 =>
      rw [h1, h2] at e l ll b ix
      simp only at e l ll b ix
      rw [e, l, ll, b, ix]
theorem V.imp.subEq {ρ : Env} {s s' : Sub} (hs : s.nix) (hs' : s'.nix) (he : ρ.sub s = ρ.sub s') (v : V) : V.imp ρ (v.sub s) (v.sub s') := fun β x hβ hr => by
  have h1 := (R.sub hs β v x).1 hr
  refine (R.sub hs' β v x).2 ?_
  have : β.sub s' = β.sub s := by
    unfold Bt.sub Gm.sub
    rw [hβ, he]
  rw [this]; exact h1
end Go.Proofs.Ytlghaoohfklpnaa.E
/- wire.ToCommit, told. -/
namespace Go.Proofs.Ytlghaoohfklpnaa.E
open Go Go.RowKit
set_option maxRecDepth 100000
set_option linter.unusedVariables false
/-- bytes, not more than so many. -/
def Kp (n : Nat) (s : Rd) : Prop := Byts s.2 ∧ s.2.length ≤ n
theorem Kp.num {n : Nat} {m : Int} {s : Rd} (h : Kp n s) : Kp n (rrN m s).2 := ⟨rrN_bt h.1, Nat.le_trans (rrN_shr m s) h.2⟩
theorem Kp.row {n : Nat} {ms : List Int} {s : Rd} (h : Kp n s) : Kp n (rrRow ms s).2 := ⟨rrRow_bt h.1, Nat.le_trans (rrRow_shr ms s) h.2⟩
theorem Kp.tk {n : Nat} {m : Int} {s : Rd} (h : Kp n s) : Kp n (rrT m s).2 := ⟨(rrT_bt h.1).1, Nat.le_trans (rrT_shr m s).1 h.2⟩
theorem Kp.box {n : Nat} {m : Int} {s : Rd} (h : Kp n s) : Kp n (rrBox m s).2 := ⟨(rrBox_bt h.1).1, Nat.le_trans (rrBox_shr m s) h.2⟩
theorem Kp.rows {n : Nat} {ms : List Int} : ∀ {k : Nat} {s : Rd}, Kp n s → Kp n (rrRows ms k s).2
  | 0, s, h => h
  | k + 1, s, h => Kp.rows (k := k) (Kp.row (ms := ms) h)
theorem Kp.crs {n : Nat} {ms : List Int} : ∀ {k : Nat} {s : Rd}, Kp n s → Kp n (crRows ms k s).2
  | 0, s, h => h
  | k + 1, (true, l), h => h
  | k + 1, (false, l), h => Kp.crs (k := k) (Kp.row (ms := ms) h)
theorem Kp.boxs {n : Nat} {m : Int} : ∀ {k : Nat} {s : Rd}, Kp n s → Kp n (rrBoxes m k s).2
  | 0, s, h => h
  | k + 1, s, h => Kp.boxs (k := k) (Kp.box (m := m) h)
theorem Kp.crx {n : Nat} {m : Int} : ∀ {k : Nat} {s : Rd}, Kp n s → Kp n (crBoxes m k s).2
  | 0, s, h => h
  | k + 1, (true, l), h => h
  | k + 1, (false, l), h => Kp.crx (k := k) (Kp.box (m := m) h)
structure LE.Kps (X : LE) : Prop where
  o : ∀ n k s, Kp n s → Kp n (X.M.ops k s).2
  v : ∀ n k s, Kp n s → Kp n (X.M.vos k s).2
  x : ∀ n k s, Kp n s → Kp n (X.M.bxs k s).2
theorem lP_kp : lP.Kps := ⟨fun _ _ _ h => h.rows, fun _ _ _ h => h.rows, fun _ _ _ h => h.boxs⟩
theorem lR_kp : lR.Kps := ⟨fun _ _ _ h => h.crs, fun _ _ _ h => h.crs, fun _ _ _ h => h.crx⟩
def LE.all (X : LE) : List L := [X.s1, X.s2, X.s3, X.s4, X.s5, X.s6, X.s7, X.s8, X.s9, X.s10, X.s11, X.s12, X.s13, X.s14, X.s15]
theorem LE.keep {X : LE} (hk : X.Kps) {ρ : Env} (h : X.St ρ) (hb : Byts (ρ.l 0)) : ∀ S ∈ X.all, Kp (ρ.l 0).length (rdS (S.den ρ)) := by
  have k1 : Kp (ρ.l 0).length (rdS (X.s1.den ρ)) := by rw [h.s1]; exact Kp.tk ⟨hb, Nat.le_refl _⟩
  have k2 : Kp (ρ.l 0).length (rdS (X.s2.den ρ)) := by rw [h.s2]; exact k1.num
  have k3 : Kp (ρ.l 0).length (rdS (X.s3.den ρ)) := by rw [h.s3]; exact k2.num
  have k4 : Kp (ρ.l 0).length (rdS (X.s4.den ρ)) := by rw [h.s4]; exact k3.num
  have k5 : Kp (ρ.l 0).length (rdS (X.s5.den ρ)) := by rw [h.s5]; exact hk.o _ _ _ k4
  have k6 : Kp (ρ.l 0).length (rdS (X.s6.den ρ)) := by rw [h.s6]; exact k5.num
  have k7 : Kp (ρ.l 0).length (rdS (X.s7.den ρ)) := by rw [h.s7]; exact hk.v _ _ _ k6
  have k8 : Kp (ρ.l 0).length (rdS (X.s8.den ρ)) := by rw [h.s8]; exact k7.num
  have k9 : Kp (ρ.l 0).length (rdS (X.s9.den ρ)) := by rw [h.s9]; exact k8.num
  have k10 : Kp (ρ.l 0).length (rdS (X.s10.den ρ)) := by rw [h.s10]; exact k9.num
  have k11 : Kp (ρ.l 0).length (rdS (X.s11.den ρ)) := by rw [h.s11]; exact k10.num
  have k12 : Kp (ρ.l 0).length (rdS (X.s12.den ρ)) := by rw [h.s12]; exact k11.num
  have k13 : Kp (ρ.l 0).length (rdS (X.s13.den ρ)) := by rw [h.s13]; exact hk.x _ _ _ k12
  have k14 : Kp (ρ.l 0).length (rdS (X.s14.den ρ)) := by rw [h.s14]; exact k13.tk
  have k15 : Kp (ρ.l 0).length (rdS (X.s15.den ρ)) := by rw [h.s15]; exact k14.row
  exact all_cons k1 (all_cons k2 (all_cons k3 (all_cons k4 (all_cons k5 (all_cons k6 (all_cons k7 (all_cons k8 (all_cons k9 (all_cons k10 (all_cons k11 (all_cons k12 (all_cons k13 (all_cons k14 (all_cons k15 all_nil))))))))))))))
def LE.stRules (X : LE) : List Rule := X.all.map (fun S => ⟨[], bytB (tlL S)⟩) ++ (X.all.map (fun S => ⟨[], small29 (tlL S)⟩) ++ [⟨[], bytB (.var 0)⟩, ⟨[], small29 (.var 0)⟩])
theorem LE.stRules_ok {X : LE} (hk : X.Kps) {ρ : Env} (h : X.St ρ) (hp : okOk ρ preC) : ∀ r ∈ X.stRules, r.Ok ρ := by
  have hb : Byts (ρ.l 0) := bytB_den.1 (hp _ (List.mem_cons_self ..))
  have hs : (ρ.l 0).length < 536870912 := small29_den.1 (hp _ (List.mem_cons_of_mem _ (List.mem_cons_self ..)))
  have key := LE.keep hk h hb
  refine all_app (fun r hr => ?_) (all_app (fun r hr => ?_) (all_cons (rule0 (bytB_den.2 hb)) (all_cons (rule0 (small29_den.2 hs)) all_nil)))
  · obtain ⟨S, hS, rfl⟩ := List.mem_map.1 hr
    exact rule0 (bytB_den.2 (key S hS).1)
  · obtain ⟨S, hS, rfl⟩ := List.mem_map.1 hr
    exact rule0 (small29_den.2 (Nat.lt_of_le_of_lt (key S hS).2 hs))
theorem rrN_rg {m : Int} (hm : 0 ≤ m) (s : Rd) : 0 ≤ (rrN m s).1 ∧ (rrN m s).1 ≤ m := by
  obtain ⟨b, l⟩ := s
  cases b with
  | true => exact ⟨Int.le_refl _, hm⟩
  | false =>
    rw [rrN_fl]
    split
    · exact ⟨Int.le_refl _, hm⟩
    · split
      · exact ⟨Int.le_refl _, hm⟩
      · rename_i h; simp only; omega
/-- a count that is small. -/
def nRules (n : E) : List Rule := [⟨[], .not (.lt n (.lit 0))⟩, ⟨[], .lt (.bin .add .i64 (.lit 0) (.bin .sub .i64 n (.lit 0))) (.lit 1073741824)⟩, ⟨[], .lt n (.lit 1073741824)⟩]
theorem nRules_ok {ρ : Env} {m : Int} {S : L} (h0 : 0 ≤ m) (h1 : m < 1000) : ∀ r ∈ nRules (nvS (.lit m) S), r.Ok ρ := by
  have hr := rrN_rg h0 (rdS (S.den ρ))
  have hn : (nvS (.lit m) S).den ρ = (rrN m (rdS (S.den ρ))).1 := nvS_den ..
  rw [← hn] at hr
  refine all_cons (rule0 ?_) (all_cons (rule0 ?_) (all_cons (rule0 ?_) all_nil))
  · show (!(ltb ((nvS (.lit m) S).den ρ) 0)) = true
    rw [ltb_eq, decide_eq_false (by omega)]; rfl
  · show ltb (IntKind.i64.wrap (0 + IntKind.i64.wrap ((nvS (.lit m) S).den ρ - 0))) 1073741824 = true
    have w := wrapS (x := (nvS (.lit m) S).den ρ) (by omega) (by omega)
    rw [Int.sub_zero, w, Int.zero_add, w, ltb_eq, decide_eq_true (by omega)]
  · show ltb ((nvS (.lit m) S).den ρ) 1073741824 = true
    rw [ltb_eq, decide_eq_true (by omega)]
def firstL : L := tkE (.lit 1) xS0
def firstB : B := .eq (.get firstL (.lit 0)) (.lit 1)
def someB : B := .lt (.lit 0) (.len firstL)
def rulesP : List Rule := lP.stRules ++ (nRules lP.n1 ++ (nRules lP.n2 ++ (nRules lP.n3 ++ [⟨[(hdB lP.s15, false)], someB⟩])))
def csP : List (B × Bool) := [(hdB lP.s15, false), (.lt (.lit 0) (.len (tlL lP.s15)), false), (firstB, true)]
noncomputable def cfPL : Cf := ⟨tabF [op1S, sig1S, num1S, take1S, take1F, hash1S, rbox1S] (tabC []), lpC [rOps1C, rVo1C, rBx1C], noMg⟩
theorem cfPL_ok : CfOk Pr cfPL := ⟨cfP_ok.1, fun ρ => lpC_ok (all_cons rOps1C_ok (all_cons rVo1C_ok (all_cons rBx1C_ok all_nil)))⟩
noncomputable def toC1T : T FRes := (execF Pr cfPL 100 12 19 [.fs 1 (.ints .u8 (.var 0))] 0 []).bind (compactS 0)
theorem toC1_lad : lad (fun v => v.same zeroV) (plainR toC1T) = some (csP, goodV.sub lP.sub) := by kernel_rfl
theorem toC1_chk : okChk rulesP [] toC1T = true := by kernel_rfl
theorem nb_num {m : Int} {s : Rd} (h : (rrN m s).2.1 = false) : s.1 = false := by
  obtain ⟨b, l⟩ := s
  cases b with
  | true => cases h
  | false => rfl
theorem nb_tk {m : Int} {s : Rd} (h : (rrT m s).2.1 = false) : s.1 = false := by
  obtain ⟨b, l⟩ := s
  cases b with
  | true => cases h
  | false => rfl
theorem nb_row : ∀ {ms : List Int} {s : Rd}, (rrRow ms s).2.1 = false → s.1 = false
  | [], s, h => h
  | m :: ms, s, h => nb_num (nb_row (ms := ms) (s := (rrN m s).2) h)
theorem nb_box {m : Int} {s : Rd} (h : (rrBox m s).2.1 = false) : s.1 = false := nb_num (nb_tk (s := (rrN m s).2) h)
theorem nb_rows {ms : List Int} : ∀ {k : Nat} {s : Rd}, (rrRows ms k s).2.1 = false → s.1 = false
  | 0, s, h => h
  | k + 1, s, h => nb_row (nb_rows (k := k) (s := (rrRow ms s).2) h)
theorem nb_boxs {m : Int} : ∀ {k : Nat} {s : Rd}, (rrBoxes m k s).2.1 = false → s.1 = false
  | 0, s, h => h
  | k + 1, s, h => nb_box (nb_boxs (k := k) (s := (rrBox m s).2) h)
theorem lP_first {ρ : Env} (h : lP.St ρ) (hb : (rdS (lP.s15.den ρ)).1 = false) : (rrT 1 (false, ρ.l 0)).1.length = 1 := by
  rw [h.s15] at hb; have hb := nb_row hb
  rw [h.s14] at hb; have hb := nb_tk hb
  rw [h.s13] at hb; have hb := nb_boxs hb
  rw [h.s12] at hb; have hb := nb_num hb
  rw [h.s11] at hb; have hb := nb_num hb
  rw [h.s10] at hb; have hb := nb_num hb
  rw [h.s9] at hb; have hb := nb_num hb
  rw [h.s8] at hb; have hb := nb_num hb
  rw [h.s7] at hb; have hb := nb_rows hb
  rw [h.s6] at hb; have hb := nb_num hb
  rw [h.s5] at hb; have hb := nb_rows hb
  rw [h.s4] at hb; have hb := nb_num hb
  rw [h.s3] at hb; have hb := nb_num hb
  rw [h.s2] at hb; have hb := nb_num hb
  rw [h.s1] at hb
  have := (rrT_back (n := 1) (s := (false, ρ.l 0)) hb).2.1
  omega
theorem someB_den (ρ : Env) : someB.den ρ = decide (0 < (rrT 1 (false, ρ.l 0)).1.length) := by
  show ltb 0 (((firstL.den ρ).length : Nat) : Int) = _
  unfold firstL
  rw [tk_den, ltb_eq]
  simp
theorem firstB_den (ρ : Env) : firstB.den ρ = ((rrT 1 (false, ρ.l 0)).1.getD 0 0 == 1) := by
  show eqb ((firstL.den ρ).getD 0 0) 1 = _
  unfold firstL
  rw [tk_den, eqb_eq, Bool.beq_eq_decide_eq]
theorem csP_iff {ρ : Env} (h : lP.St ρ) : holdAll ρ csP ↔ decB.den ρ = true := by
  have hf : rdS (lP.s15.den ρ) = (dec limP (ρ.l 0)).2 := (congrArg Prod.snd (LE.dec_eq h)).symm
  rw [decB_den]
  have e1 := hdB_den ρ lP.s15
  have e2 : (B.lt (.lit 0) (.len (tlL lP.s15))).den ρ = decide (0 < (rdS (lP.s15.den ρ)).2.length) := by
    show ltb 0 ((((tlL lP.s15).den ρ).length : Nat) : Int) = _
    rw [tlL_den, ltb_eq]; simp
  have e3 := firstB_den ρ
  rw [hf] at e1 e2
  unfold decOk
  generalize (dec limP (ρ.l 0)).2 = d at e1 e2 ⊢
  generalize ((rrT 1 (false, ρ.l 0)).1.getD 0 0 == 1) = f at e3 ⊢
  constructor
  · intro hh
    have g1 := hh _ (List.mem_cons_self ..)
    have g2 := hh _ (List.mem_cons_of_mem _ (List.mem_cons_self ..))
    have g3 := hh _ (List.mem_cons_of_mem _ (List.mem_cons_of_mem _ (List.mem_cons_self ..)))
    simp only at g1 g2 g3
    rw [e1] at g1
    rw [e2, decide_eq_false_iff_not] at g2
    rw [e3] at g3
    have : d.2 = [] := List.length_eq_zero_iff.1 (by omega)
    rw [g1, this, g3]; rfl
  · intro hh
    simp only [Bool.and_eq_true, Bool.not_eq_true', List.isEmpty_iff] at hh
    obtain ⟨⟨g1, g2⟩, g3⟩ := hh
    refine all_cons ?_ (all_cons ?_ (all_cons ?_ all_nil))
    · show (hdB lP.s15).den ρ = false
      rw [e1, g1]
    · show (B.lt (.lit 0) (.len (tlL lP.s15))).den ρ = false
      rw [e2, g2]; rfl
    · show firstB.den ρ = true
      rw [e3, g3]
theorem rulesP_ok {ρ : Env} (h : lP.St ρ) (hp : okOk ρ preC) : ∀ r ∈ rulesP, r.Ok ρ := by
  refine all_app (LE.stRules_ok lP_kp h hp) (all_app (nRules_ok (by decide) (by decide)) (all_app (nRules_ok (by decide) (by decide)) (all_app (nRules_ok (by decide) (by decide)) (all_cons (fun hs => ?_) all_nil))))
  have := hs _ (List.mem_cons_self ..)
  simp only at this
  rw [hdB_den] at this
  show someB.den ρ = true
  rw [someB_den, lP_first h this]; rfl
theorem lP_nix : lP.sub.noix = true := by kernel_rfl
theorem decS_nix : decS.noix = true := by kernel_rfl
theorem toC1_ok : FConOk Pr (toCF 19) :=
  FCon.ofLad (FCon.ofExecS hm cfPL_ok (t := toC1T) rfl) toC1_lad rulesP toC1_chk fun ρ hp =>
    have h := LE.st lP_ok ρ
    ⟨rulesP_ok h hp, csP_iff h, fun _ => V.imp.subEq (Sub.noix_ok lP_nix) (Sub.noix_ok decS_nix) (env_eq ((LE.cm h).trans (decS_cm ρ).symm)) goodV⟩
end Go.Proofs.Ytlghaoohfklpnaa.E
/- curiaref12.ToCommit, told. -/
namespace Go.Proofs.Ytlghaoohfklpnaa.E
open Go Go.RowKit
set_option maxRecDepth 100000
set_option linter.unusedVariables false
def mayR : B := (hideB mayB).sub lR.sub
def len1B : B := .eq (.len firstL) (.lit 1)
def rulesR : List Rule := lR.stRules ++ [⟨[], ltCnt lR.r4⟩, ⟨[], ltCnt lR.r6⟩, ⟨[], ltCnt lR.r12⟩, ⟨[(mayR, true)], ltLen (commitL.sub' lR.sub)⟩, ⟨[(mayR, true)], ltLen (bodyL.sub' lR.sub)⟩, ⟨[(len1B, true)], someB⟩]
def csR : List (B × Bool) := [(mayR, true), (hdB lR.s15, false), (len1B, true), (firstB, true), (.seq (commitL.sub' lR.sub) (.var 0), true)]
noncomputable def cfRL : Cf := ⟨tabF [op2S, sig2S, num2S, take2S, take2F, hash2S, commitC 81] (tabC []), lpC [rOps2C, rVo2C, rBx2C], noMg⟩
theorem cfRL_ok : CfOk Pr cfRL := ⟨fun ρ => tabF_ok (tabC_ok all_nil) (all_cons op2S_ok (all_cons sig2S_ok (all_cons num2S_ok (all_cons take2S_ok (all_cons take2F_ok (all_cons hash2S_ok (all_cons commit2_ok all_nil))))))), fun ρ => lpC_ok (all_cons rOps2C_ok (all_cons rVo2C_ok (all_cons rBx2C_ok all_nil)))⟩
noncomputable def toC2T : T FRes := (execF Pr cfRL 100 12 31 [.fs 1 (.ints .u8 (.var 0))] 0 []).bind (compactS 0)
theorem toC2_lad : lad (fun v => v.same zeroV) (plainR toC2T) = some (csR, goodV.sub lR.sub) := by kernel_rfl
theorem toC2_chk : okChk rulesR [] toC2T = true := by kernel_rfl
/-! may it be? -/
theorem andB_den (ρ : Env) : ∀ l : List B, (andB l).den ρ = true ↔ ∀ b ∈ l, b.den ρ = true
  | [] => ⟨fun _ b hb => (by cases hb), fun _ => rfl⟩
  | [a] => by simp [andB]
  | a :: b :: l => by
    have ih := andB_den ρ (b :: l)
    show ((a.den ρ) && (andB (b :: l)).den ρ) = true ↔ _
    rw [Bool.and_eq_true, ih]
    simp
theorem inBs_den (ρ : Env) (e : E) (m : Int) : (∀ b ∈ inBs e m, b.den ρ = true) ↔ inN m (e.den ρ) := by
  have h1 : (B.not (.lt e (.lit 0))).den ρ = !(decide (e.den ρ < 0)) := by show (!(ltb (e.den ρ) 0)) = _; rw [ltb_eq]
  have h2 : (B.not (.lt (.lit m) e)).den ρ = !(decide (m < e.den ρ)) := by show (!(ltb m (e.den ρ))) = _; rw [ltb_eq]
  unfold inBs inN
  constructor
  · intro h
    have g1 := h _ (List.mem_cons_self ..)
    have g2 := h _ (List.mem_cons_of_mem _ (List.mem_cons_self ..))
    rw [h1] at g1; rw [h2] at g2
    simp only [Bool.not_eq_true', decide_eq_false_iff_not] at g1 g2
    omega
  · intro h
    refine all_cons ?_ (all_cons ?_ all_nil)
    · rw [h1, decide_eq_false (by omega)]; rfl
    · rw [h2, decide_eq_false (by omega)]; rfl
theorem findI_lt (p : Nat → Bool) : ∀ (k j : Nat), findI p k j < j + k ↔ ∃ i, j ≤ i ∧ i < j + k ∧ p i = true
  | 0, j => ⟨fun h => by simp [findI] at h, fun ⟨i, h1, h2, _⟩ => by omega⟩
  | k + 1, j => by
    have ih := findI_lt p k (j + 1)
    show (bif p j then j else findI p k (j + 1)) < j + (k + 1) ↔ _
    cases hp : p j with
    | true => rw [cond_true]; exact ⟨fun _ => ⟨j, Nat.le_refl _, by omega, hp⟩, fun _ => by omega⟩
    | false =>
      rw [cond_false, show j + (k + 1) = j + 1 + k by omega, ih]
      constructor
      · rintro ⟨i, h1, h2, h3⟩; exact ⟨i, by omega, h2, h3⟩
      · rintro ⟨i, h1, h2, h3⟩
        refine ⟨i, ?_, h2, h3⟩
        rcases Nat.lt_or_ge j i with h | h
        · omega
        · have : i = j := by omega
          subst this; rw [hp] at h3; cases h3
theorem findB_den (ρ : Env) (l : Nat) (p : B) : (B.not (.lt (.find (.cnt (.var l)) p) (.cnt (.var l)))).den ρ = true ↔ ∀ i, i < (ρ.ll l).length → p.den (ρ.at i) = false := by
  show (!(ltb (((findI (fun i => p.den (ρ.at i)) ((((ρ.ll l).length : Nat) : Int)).toNat 0 : Nat)) : Int) ((ρ.ll l).length : Nat))) = true ↔ _
  rw [Int.toNat_natCast, ltb_eq, Bool.not_eq_true', decide_eq_false_iff_not]
  have h := findI_lt (fun i => p.den (ρ.at i)) (ρ.ll l).length 0
  rw [Nat.zero_add] at h
  constructor
  · intro hn i hi
    cases hp : p.den (ρ.at i) with
    | false => rfl
    | true => exact (hn (by have := h.2 ⟨i, Nat.zero_le _, hi, hp⟩; omega)).elim
  · intro ha hlt
    obtain ⟨i, _, h2, h3⟩ := h.1 (by omega)
    have := ha i h2
    have h3 : p.den (ρ.at i) = true := h3
    rw [this] at h3; cases h3
theorem rows_iff {l : List (List Int)} {P : List Int → Prop} : (∀ i, i < l.length → P (l.getD i [])) ↔ ∀ r ∈ l, P r := by
  constructor
  · intro h r hr
    obtain ⟨i, hi, rfl⟩ := List.getElem_of_mem hr
    have := h i hi
    rwa [List.getD, List.getElem?_eq_getElem hi] at this
  · intro h i hi
    rw [List.getD, List.getElem?_eq_getElem hi]
    exact h _ (List.getElem_mem hi)
theorem not_den (ρ : Env) (b : B) : (B.not b).den ρ = false ↔ b.den ρ = true := by
  show (!(b.den ρ)) = false ↔ _
  cases b.den ρ <;> simp
theorem el_den (ρ : Env) (l k i : Nat) : (elB l k).den (ρ.at i) = ((ρ.ll l).getD i []).getD k 0 := by
  show ((ρ.ll l).getD ((i : Int)).toNat []).getD ((k : Int)).toNat 0 = _
  rw [Int.toNat_natCast, Int.toNat_natCast]
theorem forall_app {α : Type} {p : α → Prop} {a b : List α} : (∀ x ∈ a ++ b, p x) ↔ (∀ x ∈ a, p x) ∧ ∀ x ∈ b, p x :=
  ⟨fun h => ⟨fun x hx => h x (List.mem_append_left _ hx), fun x hx => h x (List.mem_append_right _ hx)⟩, fun h => all_app h.1 h.2⟩
theorem forall_cons' {α : Type} {p : α → Prop} {a : α} {b : List α} : (∀ x ∈ a :: b, p x) ↔ p a ∧ ∀ x ∈ b, p x :=
  ⟨fun h => ⟨h a (List.mem_cons_self ..), fun x hx => h x (List.mem_cons_of_mem _ hx)⟩, fun h => all_cons h.1 h.2⟩
theorem op_iff {r : List Int} (h : r.length = 5) : inR opM r ↔ (inN 1099511627776 (r.getD 0 0) ∧ inN 1099511627776 (r.getD 1 0) ∧ inN 1099511627776 (r.getD 2 0) ∧ inN 1099511627776 (r.getD 3 0) ∧ inN 1099511627776 (r.getD 4 0)) := by
  match r, h with
  | [a, b, c, d, e], _ =>
    simp only [opM, inR, inN, List.getD_cons_zero, List.getD_cons_succ, and_true]
    exact ⟨fun h => by refine ⟨?_, ?_, ?_, ?_, ?_⟩ <;> omega, fun h => by refine ⟨?_, ?_, ?_, ?_, ?_⟩ <;> omega⟩
theorem vo_iff {r : List Int} (h : r.length = 3) : inR voM r ↔ (inN 7 (r.getD 0 0) ∧ inN 1073741788 (r.getD 1 0) ∧ inN 1073741788 (r.getD 2 0)) := by
  match r, h with
  | [a, b, c], _ =>
    simp only [voM, inR, inN, List.getD_cons_zero, List.getD_cons_succ, and_true]
    exact ⟨fun h => by refine ⟨?_, ?_, ?_⟩ <;> omega, fun h => by refine ⟨?_, ?_, ?_⟩ <;> omega⟩
theorem opB_den (ρ : Env) (l : Nat) (h : ∀ r ∈ ρ.ll l, r.length = 5) : (B.not (opB l)).den ρ = true ↔ ∀ r ∈ ρ.ll l, inR opM r := by
  unfold opB
  rw [findB_den]
  simp only [not_den, andB_den, forall_app, inBs_den, el_den]
  rw [rows_iff (P := fun r => (((inN 1099511627776 (r.getD 0 0) ∧ inN 1099511627776 (r.getD 1 0)) ∧ inN 1099511627776 (r.getD 2 0)) ∧ inN 1099511627776 (r.getD 3 0)) ∧ inN 1099511627776 (r.getD 4 0))]
  constructor
  · intro hh r hr; rw [op_iff (h r hr)]; have := hh r hr; simp only [and_assoc] at this; exact this
  · intro hh r hr; have := (op_iff (h r hr)).1 (hh r hr); simp only [and_assoc]; exact this
theorem voteB_den (ρ : Env) (l : Nat) (h : ∀ r ∈ ρ.ll l, r.length = 3) : (B.not (voteB l)).den ρ = true ↔ ∀ r ∈ ρ.ll l, inR voM r := by
  unfold voteB
  rw [findB_den]
  simp only [not_den, andB_den, forall_app, inBs_den, el_den]
  rw [rows_iff (P := fun r => ((inN 7 (r.getD 0 0) ∧ inN 1073741788 (r.getD 1 0)) ∧ inN 1073741788 (r.getD 2 0)))]
  constructor
  · intro hh r hr; rw [vo_iff (h r hr)]; have := hh r hr; simp only [and_assoc] at this; exact this
  · intro hh r hr; have := (vo_iff (h r hr)).1 (hh r hr); simp only [and_assoc]; exact this
theorem boxB_den (ρ : Env) (l : Nat) : (B.not (boxB l)).den ρ = true ↔ ∀ r ∈ ρ.ll l, inBx 300 r := by
  unfold boxB
  rw [findB_den]
  have e : ∀ i : Nat, (B.lt (.lit 300) (.len (.at (.var l) .ix))).den (ρ.at i) = decide (300 < ((((ρ.ll l).getD i []).length : Nat) : Int)) := fun i => by
    show ltb 300 (((((ρ.ll l).getD ((i : Int)).toNat []).length : Nat)) : Int) = _
    rw [Int.toNat_natCast, ltb_eq]
  simp only [e, decide_eq_false_iff_not]
  rw [rows_iff (P := fun r => ¬ (300 < ((r.length : Nat) : Int)))]
  constructor
  · intro hh r hr; have := hh r hr; exact ⟨by omega, by omega⟩
  · intro hh r hr; have := (hh r hr).1; omega
theorem le_den (ρ : Env) (m : Int) (l : LL) : (B.not (.lt (.lit m) (.cnt l))).den ρ = true ↔ (((l.den ρ).length : Nat) : Int) ≤ m := by
  show (!(ltb m (((l.den ρ).length : Nat) : Int))) = true ↔ _
  rw [ltb_eq, Bool.not_eq_true', decide_eq_false_iff_not]; omega
theorem may_den {ρ : Env} (ho : ∀ r ∈ ρ.ll 0, r.length = 5) (hv : ∀ r ∈ ρ.ll 1, r.length = 3) (ht : (ρ.l 0).length = 32) (htb : Byts (ρ.l 0)) : mayB.den ρ = true ↔ MayC (cmOf ρ) := by
  unfold mayB
  rw [andB_den]
  simp only [forall_app, forall_cons', inBs_den, le_den, opB_den ρ 0 ho, voteB_den ρ 1 hv, boxB_den]
  show ((((((((inN 1099511627776 (ρ.e 0) ∧ inN 7 (ρ.e 1)) ∧ inN 2147483579 (ρ.e 2)) ∧ inN 2147483579 (ρ.e 3)) ∧ inN 2147483579 (ρ.e 4)) ∧ inN 2147483579 (ρ.e 5)) ∧ inN 1073741788 (ρ.e 6)) ∧ inN 1073741788 (ρ.e 7)) ∧ (((ρ.ll 0).length : Nat) : Int) ≤ 4 ∧ (((ρ.ll 1).length : Nat) : Int) ≤ 8 ∧ (((ρ.ll 2).length : Nat) : Int) ≤ 16 ∧ _ ∧ _ ∧ _ ∧ _) ↔ _
  constructor
  · rintro ⟨⟨⟨⟨⟨⟨⟨⟨a1, a2⟩, a3⟩, a4⟩, a5⟩, a6⟩, a7⟩, a8⟩, b1, b2, b3, b4, b5, b6, _⟩
    exact ⟨a1, a2, a3, a4, a5, a6, a7, a8, ht, htb, by show (ρ.ll 0).length ≤ 4; omega, by show (ρ.ll 1).length ≤ 8; omega, by show (ρ.ll 2).length ≤ 16; omega, b4, b5, b6⟩
  · intro h
    have h1 : (ρ.ll 0).length ≤ 4 := h.n1
    have h2 : (ρ.ll 1).length ≤ 8 := h.n2
    have h3 : (ρ.ll 2).length ≤ 16 := h.n3
    exact ⟨⟨⟨⟨⟨⟨⟨⟨h.e, h.f⟩, h.p⟩, h.p0⟩, h.p1⟩, h.p2⟩, h.sE⟩, h.sS⟩, by omega, by omega, by omega, h.ops, h.vos, h.bxs, fun x hx => by cases hx⟩
/-! its bytes -/
theorem rows5 {l : List (List Int)} (h : ∀ r ∈ l, r.length = 5) : opsM l = rowsM l := by
  unfold opsM rowsM
  induction l with
  | nil => rfl
  | cons a l ih =>
    rw [List.flatMap_cons, List.flatMap_cons, ih fun r hr => h r (List.mem_cons_of_mem _ hr), range_getD (d := (0 : Int)) a 5 (h a (List.mem_cons_self ..))]
theorem rows3 {l : List (List Int)} (h : ∀ r ∈ l, r.length = 3) : votesM l = rowsM l := by
  unfold votesM rowsM
  induction l with
  | nil => rfl
  | cons a l ih =>
    rw [List.flatMap_cons, List.flatMap_cons, ih fun r hr => h r (List.mem_cons_of_mem _ hr), range_getD (d := (0 : Int)) a 3 (h a (List.mem_cons_self ..))]
theorem subL_id {l : List Int} {n : Nat} (h : l.length = n) : subL l 0 n = l := by
  unfold subL
  simp only [Nat.zero_add]
  exact range_getD (d := (0 : Int)) l n h
theorem commit_den {ρ : Env} (ho : ∀ r ∈ ρ.ll 0, r.length = 5) (hv : ∀ r ∈ ρ.ll 1, r.length = 3) (ht : (ρ.l 0).length = 32) : commitL.den ρ = encC (cmOf ρ) := by
  show 1 :: (catL (bodyParts ++ [.sub (.var 0) 0 32, numL (.var 6), numL (.var 7)])).den ρ = _
  rw [catL_den, List.flatMap_append, ← catL_den]
  show 1 :: (bodyL.den ρ ++ _) = _
  rw [body_den, rows5 ho, rows3 hv]
  have e : List.flatMap (L.den ρ) [.sub (.var 0) 0 32, numL (.var 6), numL (.var 7)] = ρ.l 0 ++ (numB (ρ.e 6) ++ numB (ρ.e 7)) := by
    simp only [List.flatMap_cons, List.flatMap_nil, numL_den, List.append_nil]
    show subL (ρ.l 0) 0 32 ++ _ = _
    rw [subL_id ht]; rfl
  rw [e]
  unfold encC cmOf
  simp only [List.append_assoc]
end Go.Proofs.Ytlghaoohfklpnaa.E
/- curiaref12.ToCommit: the same contract. -/
namespace Go.Proofs.Ytlghaoohfklpnaa.E
open Go Go.RowKit
set_option maxRecDepth 100000
set_option linter.unusedVariables false
theorem crRows_rows {ms : List Int} : ∀ {k : Nat} {s : Rd}, ∀ r ∈ (crRows ms k s).1, r.length = ms.length
  | 0, s, r, h => by cases h
  | k + 1, (true, l), r, h => by cases h
  | k + 1, (false, l), r, h => by
    rcases List.mem_cons.1 (show r ∈ (rrRow ms (false, l)).1 :: (crRows ms k (rrRow ms (false, l)).2).1 from h) with rfl | h
    · exact rrRow_len _ _
    · exact crRows_rows (k := k) r h
theorem crRows_cnt {m : Int} {ms : List Int} : ∀ {k : Nat} {s : Rd}, (crRows (m :: ms) k s).1.length ≤ bif s.1 then 0 else s.2.length + 1
  | 0, s => Nat.zero_le _
  | k + 1, (true, l) => Nat.le_refl _
  | k + 1, (false, l) => by
    have ih := crRows_cnt (m := m) (ms := ms) (k := k) (s := (rrRow (m :: ms) (false, l)).2)
    have hl := rrRow_less m ms l
    show (crRows (m :: ms) k (rrRow (m :: ms) (false, l)).2).1.length + 1 ≤ l.length + 1
    cases hb : (rrRow (m :: ms) (false, l)).2.1 with
    | true => rw [hb, cond_true] at ih; omega
    | false =>
      rw [hb, cond_false] at ih
      rcases hl with hl | hl
      · rw [hb] at hl; cases hl
      · omega
theorem crBoxes_cnt {m : Int} : ∀ {k : Nat} {s : Rd}, (crBoxes m k s).1.length ≤ bif s.1 then 0 else s.2.length + 1
  | 0, s => Nat.zero_le _
  | k + 1, (true, l) => Nat.le_refl _
  | k + 1, (false, l) => by
    have ih := crBoxes_cnt (m := m) (k := k) (s := (rrBox m (false, l)).2)
    have hl := rrBox_less m l
    show (crBoxes m k (rrBox m (false, l)).2).1.length + 1 ≤ l.length + 1
    cases hb : (rrBox m (false, l)).2.1 with
    | true => rw [hb, cond_true] at ih; omega
    | false =>
      rw [hb, cond_false] at ih
      rcases hl with hl | hl
      · rw [hb] at hl; cases hl
      · omega
theorem le_bif {a n : Nat} {b : Bool} (h : a ≤ bif b then 0 else n + 1) : a ≤ n + 1 := by
  cases b with
  | true => exact Nat.le_trans h (Nat.zero_le _)
  | false => exact h
theorem pad32_len (l : List Int) : (pad32 l).length = 32 := by unfold pad32 cutJ; simp
theorem pad32_byts (l : List Int) : Byts (pad32 l) := by
  unfold pad32 cutJ
  intro c hc
  obtain ⟨i, _, rfl⟩ := List.mem_map.1 hc
  rw [List.getD, List.getElem?_map]
  cases l[i]? with
  | none => exact ⟨by decide, by decide⟩
  | some x => show 0 ≤ IntKind.u8.wrap x ∧ IntKind.u8.wrap x ≤ 255; rw [wrap8I]; omega
/-- the reference's letters are of a commit's form. -/
structure FormC (ρ : Env) : Prop where
  o : ∀ r ∈ ρ.ll 0, r.length = 5
  v : ∀ r ∈ ρ.ll 1, r.length = 3
  t : (ρ.l 0).length = 32
  tb : Byts (ρ.l 0)
theorem lR_form {ρ : Env} (h : lR.St ρ) : FormC (ρ.sub lR.sub) where
  o := fun r hr => by
    rw [envLL (s := lR.sub) (i := 0) (a := lR.r4) rfl, h.r4] at hr
    exact crRows_rows r hr
  v := fun r hr => by
    rw [envLL (s := lR.sub) (i := 1) (a := lR.r6) rfl, h.r6] at hr
    exact crRows_rows r hr
  t := by
    rw [envL (s := lR.sub) (i := 0) (a := .app 77 lR.s13 .nil) rfl]
    exact pad32_len _
  tb := by
    rw [envL (s := lR.sub) (i := 0) (a := .app 77 lR.s13 .nil) rfl]
    exact pad32_byts _
theorem flat_le {m : Nat} : ∀ {l : List (List Int)}, (∀ r ∈ l, r.length ≤ m) → l.flatten.length ≤ m * l.length
  | [], _ => by simp
  | a :: l, h => by
    have := flat_le (l := l) fun r hr => h r (List.mem_cons_of_mem _ hr)
    have := h a (List.mem_cons_self ..)
    rw [List.flatten_cons, List.length_append, List.length_cons, Nat.mul_add]; omega
theorem may_len {ρ : Env} (h : MayC (cmOf ρ)) : (bodyL.den ρ).length < 10000 := by
  rw [body_len]
  have h1 : (ρ.ll 0).length ≤ 4 := h.n1
  have h2 : (ρ.ll 1).length ≤ 8 := h.n2
  have h3 : (ρ.ll 2).length ≤ 16 := h.n3
  have := flat_le (m := 300) (l := ρ.ll 2) fun r hr => by have := (h.bxs r hr).1; omega
  omega
theorem lR_nix : lR.sub.noix = true := by kernel_rfl
theorem mayR_den {ρ : Env} (h : lR.St ρ) : mayR.den ρ = true ↔ MayC (dec limR (ρ.l 0)).1 := by
  unfold mayR
  rw [B.sub_den (Sub.noix_ok lR_nix), hideB_den]
  have f := lR_form h
  rw [may_den f.o f.v f.t f.tb, LE.cm h]; rfl
theorem commitR_den {ρ : Env} (h : lR.St ρ) : (commitL.sub' lR.sub).den ρ = encC (dec limR (ρ.l 0)).1 := by
  have f := lR_form h
  rw [L.sub_den (Sub.noix_ok lR_nix), commit_den f.o f.v f.t, LE.cm h]; rfl
theorem cnt_big {ρ : Env} {l : LL} {n : Nat} (h : (l.den ρ).length ≤ n + 1) (hn : n < 536870912) : (ltCnt l).den ρ = true := by
  show ltb (((l.den ρ).length : Nat) : Int) 4611686018427387904 = true
  exact ltT (by omega)
theorem rulesR_ok {ρ : Env} (h : lR.St ρ) (hp : okOk ρ preC) : ∀ r ∈ rulesR, r.Ok ρ := by
  have hb : Byts (ρ.l 0) := bytB_den.1 (hp _ (List.mem_cons_self ..))
  have hs : (ρ.l 0).length < 536870912 := small29_den.1 (hp _ (List.mem_cons_of_mem _ (List.mem_cons_self ..)))
  have k := LE.keep lR_kp h hb
  have k4 : Kp (ρ.l 0).length (rdS (lR.s4.den ρ)) := k lR.s4 (by simp [LE.all])
  have k6 : Kp (ρ.l 0).length (rdS (lR.s6.den ρ)) := k lR.s6 (by simp [LE.all])
  have k12 : Kp (ρ.l 0).length (rdS (lR.s12.den ρ)) := k lR.s12 (by simp [LE.all])
  have lenR : ∀ hs : holdAll ρ [(mayR, true)], (bodyL.den (ρ.sub lR.sub)).length < 10000 := fun hs => by
    have := (mayR_den h).1 (hs _ (List.mem_cons_self ..))
    refine may_len ?_
    rw [LE.cm h]; exact this
  refine all_app (LE.stRules_ok lR_kp h hp) (all_cons (rule0 ?_) (all_cons (rule0 ?_) (all_cons (rule0 ?_) (all_cons (fun hs => ?_) (all_cons (fun hs => ?_) (all_cons (fun hs => ?_) all_nil))))))
  · refine cnt_big (n := (ρ.l 0).length) ?_ hs
    rw [h.r4]
    have c := le_bif (crRows_cnt (m := 9223372036854775807) (ms := anyM 4) (k := (rrN lR.M.n1 (rdS (lR.s3.den ρ))).1.toNat) (s := rdS (lR.s4.den ρ)))
    exact Nat.le_trans c (Nat.succ_le_succ k4.2)
  · refine cnt_big (n := (ρ.l 0).length) ?_ hs
    rw [h.r6]
    have c := le_bif (crRows_cnt (m := 9223372036854775807) (ms := anyM 2) (k := (rrN lR.M.n2 (rdS (lR.s5.den ρ))).1.toNat) (s := rdS (lR.s6.den ρ)))
    exact Nat.le_trans c (Nat.succ_le_succ k6.2)
  · refine cnt_big (n := (ρ.l 0).length) ?_ hs
    rw [h.r12]
    have c := le_bif (crBoxes_cnt (m := 9223372036854775807) (k := (rrN lR.M.n3 (rdS (lR.s11.den ρ))).1.toNat) (s := rdS (lR.s12.den ρ)))
    exact Nat.le_trans c (Nat.succ_le_succ k12.2)
  · have hl := lenR hs
    show ltb ((((commitL.sub' lR.sub).den ρ).length : Nat) : Int) 1073741824 = true
    rw [L.sub_den (Sub.noix_ok lR_nix), commit_len]
    exact ltT (by omega)
  · have hl := lenR hs
    show ltb ((((bodyL.sub' lR.sub).den ρ).length : Nat) : Int) 1073741824 = true
    rw [L.sub_den (Sub.noix_ok lR_nix)]
    exact ltT (by omega)
  · have := hs _ (List.mem_cons_self ..)
    have g : eqb (((firstL.den ρ).length : Nat) : Int) 1 = true := this
    rw [eqb_eq, beq_iff_eq] at g
    show someB.den ρ = true
    show ltb 0 (((firstL.den ρ).length : Nat) : Int) = true
    exact ltT (by omega)
theorem first_enc (c : Cm) : (rrT 1 (false, encC c)).1 = [1] := by
  unfold encC
  exact congrArg Prod.fst (rrT_go (n := 1) (a := [1]) rfl)
/-- where the program takes bytes, the reference has read the same. -/
theorem decOk_dec {l : List Int} (hb : Byts l) (h : decOk l = true) : MayC (dec limP l).1 ∧ encC (dec limP l).1 = l := by
  unfold decOk at h
  simp only [Bool.and_eq_true, Bool.not_eq_true', List.isEmpty_iff, beq_iff_eq] at h
  refine dec_back hb ?_ h.2
  generalize (dec limP l).2 = d at h
  obtain ⟨b, r⟩ := d
  rw [show b = false from h.1.1, show r = [] from h.1.2]
theorem decOk_enc {c : Cm} (h : MayC c) : decOk (encC c) = true ∧ dec limP (encC c) = (c, false, []) ∧ dec limR (encC c) = (c, false, []) := by
  have e1 := dec_enc limP_ok h
  refine ⟨?_, e1, dec_enc limR_ok h⟩
  unfold decOk
  rw [e1, first_enc]; rfl
theorem Byts.app {a b : List Int} (ha : Byts a) (hb : Byts b) : Byts (a ++ b) := fun c hc => (List.mem_append.1 hc).elim (ha c) (hb c)
theorem nums_byts (l : List Int) : Byts (numsM l) := fun c hc => by
  obtain ⟨x, _, h⟩ := List.mem_flatMap.1 hc
  exact numB_bytes x c h
theorem rowsM_byts (l : List (List Int)) : Byts (rowsM l) := fun c hc => by
  obtain ⟨x, _, h⟩ := List.mem_flatMap.1 hc
  exact nums_byts x c h
theorem boxesM_byts {l : List (List Int)} (h : ∀ r ∈ l, Byts r) : Byts (boxesM l) := fun c hc => by
  obtain ⟨x, hx, hm⟩ := List.mem_flatMap.1 hc
  exact ((numB_bytes _).app (h x hx)) c hm
theorem encC_byts {c : Cm} (ht : Byts c.tag) (hx : ∀ r ∈ c.bxs, Byts r) : Byts (encC c) := by
  unfold encC
  refine Byts.app (a := [1]) (fun c hc => ?_) ?_
  · simp only [List.mem_cons, List.not_mem_nil, or_false] at hc; subst hc; exact ⟨by decide, by decide⟩
  · exact (numB_bytes _).app ((numB_bytes _).app ((numB_bytes _).app ((rowsM_byts _).app ((numB_bytes _).app ((rowsM_byts _).app ((numB_bytes _).app ((numB_bytes _).app ((numB_bytes _).app ((numB_bytes _).app ((numB_bytes _).app ((boxesM_byts hx).app (ht.app ((numB_bytes _).app (numB_bytes _))))))))))))))
theorem crBoxes_byts {m : Int} : ∀ {k : Nat} {s : Rd}, Byts s.2 → ∀ r ∈ (crBoxes m k s).1, Byts r
  | 0, s, _, r, h => by cases h
  | k + 1, (true, l), _, r, h => by cases h
  | k + 1, (false, l), hb, r, h => by
    rcases List.mem_cons.1 (show r ∈ (rrBox m (false, l)).1 :: (crBoxes m k (rrBox m (false, l)).2).1 from h) with rfl | h
    · exact (rrBox_bt hb).2
    · exact crBoxes_byts (k := k) (rrBox_bt hb).1 r h
theorem eqS_iff {a b : List Int} (ha : Byts a) (hb : Byts b) : eqS a b = true ↔ a = b := by
  unfold eqS
  rw [byt_id ha, byt_id hb, decide_eq_true_eq]
theorem csR_iff {ρ : Env} (h : lR.St ρ) (hb : Byts (ρ.l 0)) : (holdAll ρ csR ↔ decB.den ρ = true) ∧ (holdAll ρ csR → (dec limR (ρ.l 0)).1 = (dec limP (ρ.l 0)).1) := by
  have hf : rdS (lR.s15.den ρ) = (dec limR (ρ.l 0)).2 := (congrArg Prod.snd (LE.dec_eq h)).symm
  have e1 := hdB_den ρ lR.s15
  rw [hf] at e1
  have e2 : len1B.den ρ = decide ((rrT 1 (false, ρ.l 0)).1.length = 1) := by
    show eqb (((firstL.den ρ).length : Nat) : Int) 1 = _
    unfold firstL
    rw [tk_den, eqb_eq, Bool.beq_eq_decide_eq, decide_eq_decide]
    omega
  have e3 := firstB_den ρ
  have k := LE.keep lR_kp h hb
  have k12 : Kp (ρ.l 0).length (rdS (lR.s12.den ρ)) := k lR.s12 (by simp [LE.all])
  have hbe : Byts (encC (dec limR (ρ.l 0)).1) := by
    have hd : dec limR (ρ.l 0) = _ := LE.dec_eq h
    rw [hd]
    refine encC_byts (pad32_byts _) fun r hr => ?_
    have hr : r ∈ lR.r12.den ρ := hr
    rw [h.r12] at hr
    exact crBoxes_byts k12.1 r hr
  have e4 : (B.seq (commitL.sub' lR.sub) (.var 0)).den ρ = true ↔ encC (dec limR (ρ.l 0)).1 = ρ.l 0 := by
    show eqS ((commitL.sub' lR.sub).den ρ) (ρ.l 0) = true ↔ _
    rw [commitR_den h]
    exact eqS_iff hbe hb
  have fwd : holdAll ρ csR → MayC (dec limR (ρ.l 0)).1 ∧ encC (dec limR (ρ.l 0)).1 = ρ.l 0 := fun hh =>
    ⟨(mayR_den h).1 (hh _ (List.mem_cons_self ..)), e4.1 (hh _ (List.mem_cons_of_mem _ (List.mem_cons_of_mem _ (List.mem_cons_of_mem _ (List.mem_cons_of_mem _ (List.mem_cons_self ..))))))⟩
  refine ⟨⟨fun hh => ?_, fun hd => ?_⟩, fun hh => ?_⟩
  · obtain ⟨g1, g2⟩ := fwd hh
    rw [decB_den, ← g2]
    exact (decOk_enc g1).1
  · rw [decB_den] at hd
    obtain ⟨g1, g2⟩ := decOk_dec hb hd
    have g3 := (decOk_enc g1).2.2
    rw [g2] at g3
    have f3 : (rrT 1 (false, ρ.l 0)).1 = [1] := by rw [← g2]; exact first_enc _
    refine all_cons ?_ (all_cons ?_ (all_cons ?_ (all_cons ?_ (all_cons ?_ all_nil))))
    · exact (mayR_den h).2 (by rw [g3]; exact g1)
    · show (hdB lR.s15).den ρ = false
      rw [e1, g3]
    · show len1B.den ρ = true
      rw [e2, f3]; rfl
    · show firstB.den ρ = true
      rw [e3, f3]; rfl
    · exact e4.2 (by rw [g3]; exact g2)
  · obtain ⟨g1, g2⟩ := fwd hh
    have := (decOk_enc g1).2.1
    rw [g2] at this
    rw [this]
theorem toC2_ok : FConOk Pr (toCF 31) :=
  FCon.ofLad (FCon.ofExecS hm cfRL_ok (t := toC2T) rfl) toC2_lad rulesR toC2_chk fun ρ hp =>
    have h := LE.st lR_ok ρ
    have hb : Byts (ρ.l 0) := bytB_den.1 (hp _ (List.mem_cons_self ..))
    ⟨rulesR_ok h hp, (csR_iff h hb).1, fun hh => V.imp.subEq (Sub.noix_ok lR_nix) (Sub.noix_ok decS_nix) (env_eq ((LE.cm h).trans (((csR_iff h hb).2 hh).trans (decS_cm ρ).symm))) goodV⟩
end Go.Proofs.Ytlghaoohfklpnaa.E
/- Are two commits one? -/
namespace Go.Proofs.Ytlghaoohfklpnaa.E
open Go Go.RowKit
set_option maxRecDepth 100000
set_option linter.unusedVariables false
def cmA : V := .agg (commitCs 0 0 0 1 2)
def cmB : V := .agg (commitCs 8 1 3 4 5)
def eqAt (a b k : Nat) : B := .eq (elB a k) (elB b k)
/-- no row at which it is otherwise. -/
def noDiff (a : Nat) (p : B) : B := .not (.lt (.find (.cnt (.var a)) (.not p)) (.cnt (.var a)))
def sameB : B := andB ([.eq (.cnt (.var 0)) (.cnt (.var 3)), .eq (.cnt (.var 1)) (.cnt (.var 4)), noDiff 1 (andB [eqAt 1 4 0, eqAt 1 4 1, eqAt 1 4 2]), .eq (.cnt (.var 2)) (.cnt (.var 5)), noDiff 2 (.seq (.at (.var 2) .ix) (.at (.var 5) .ix)), noDiff 0 (andB [eqAt 0 3 0, eqAt 0 3 1, eqAt 0 3 2, eqAt 0 3 3, eqAt 0 3 4])] ++
  [.eq (.var 0) (.var 8), .eq (.var 1) (.var 9), .eq (.var 2) (.var 10), .eq (.var 3) (.var 11), .eq (.var 4) (.var 12), .eq (.var 5) (.var 13), .leq (.sub (.var 0) 0 32) (.sub (.var 1) 0 32), .eq (.var 6) (.var 14), .eq (.var 7) (.var 15)])
def cnts6 : List B := [ltCnt (.var 0), ltCnt (.var 1), ltCnt (.var 2)]
def sameC (f : FuncId) : Con := ⟨f, [cmA, cmB], .leaf (.bool (hideB sameB), cnts6)⟩
theorem same2_ok : ConOk Pr (sameC 20) := Con.hide (Con.bool (Con.ofExec hm cfM_ok (fuel := 100) (depth := 12) rfl rfl) sameB _ (by kernel_rfl))
def cmOf2 (ρ : Env) : Cm := ⟨ρ.e 8, ρ.e 9, ρ.e 10, ρ.e 11, ρ.e 12, ρ.e 13, ρ.e 14, ρ.e 15, ρ.l 1, ρ.ll 3, ρ.ll 4, ρ.ll 5⟩
theorem el_eq (ρ : Env) {a b : Nat} (h : ρ.ll a = ρ.ll b) (k i : Nat) : (eqAt a b k).den (ρ.at i) = true := by
  show eqb ((elB a k).den (ρ.at i)) ((elB b k).den (ρ.at i)) = true
  rw [el_den, el_den, h, eqb_eq]; simp
/-- of one commit they say so. -/
theorem same_refl {ρ : Env} (h : cmOf ρ = cmOf2 ρ) : sameB.den ρ = true := by
  unfold cmOf cmOf2 at h
  injection h with h0 h1 h2 h3 h4 h5 h6 h7 h8 h9 h10 h11
  have ec : ∀ {a b : Nat}, ρ.ll a = ρ.ll b → (B.eq (.cnt (.var a)) (.cnt (.var b))).den ρ = true := fun {a b} h => by
    show eqb (((ρ.ll a).length : Nat) : Int) (((ρ.ll b).length : Nat) : Int) = true
    rw [h, eqb_eq]; simp
  have ee : ∀ {a b : Nat}, ρ.e a = ρ.e b → (B.eq (.var a) (.var b)).den ρ = true := fun {a b} h => by
    show eqb (ρ.e a) (ρ.e b) = true
    rw [h, eqb_eq]; simp
  unfold sameB
  rw [andB_den]
  refine all_app (all_cons (ec h9) (all_cons (ec h10) (all_cons ?_ (all_cons (ec h11) (all_cons ?_ (all_cons ?_ all_nil)))))) (all_cons (ee h0) (all_cons (ee h1) (all_cons (ee h2) (all_cons (ee h3) (all_cons (ee h4) (all_cons (ee h5) (all_cons ?_ (all_cons (ee h6) (all_cons (ee h7) all_nil)))))))))
  · exact (findB_den ρ 1 _).2 fun i _ => (not_den _ _).2 ((andB_den _ _).2 (all_cons (el_eq ρ h10 0 i) (all_cons (el_eq ρ h10 1 i) (all_cons (el_eq ρ h10 2 i) all_nil))))
  · refine (findB_den ρ 2 _).2 fun i _ => (not_den _ _).2 ?_
    show eqS ((ρ.ll 2).getD ((i : Int)).toNat []) ((ρ.ll 5).getD ((i : Int)).toNat []) = true
    rw [h11]; exact decide_eq_true rfl
  · exact (findB_den ρ 0 _).2 fun i _ => (not_den _ _).2 ((andB_den _ _).2 (all_cons (el_eq ρ h9 0 i) (all_cons (el_eq ρ h9 1 i) (all_cons (el_eq ρ h9 2 i) (all_cons (el_eq ρ h9 3 i) (all_cons (el_eq ρ h9 4 i) all_nil))))))
  · show eqL (subL (ρ.l 0) 0 32) (subL (ρ.l 1) 0 32) = true
    rw [h8]; exact decide_eq_true rfl
/-! what is cut short, or longer, is none -/
theorem first_app (c : Cm) (r : List Int) : (rrT 1 (false, encC c ++ r)).1 = [1] := by
  unfold encC
  rw [List.cons_append]
  exact congrArg Prod.fst (rrT_go (n := 1) (a := [1]) rfl)
theorem decOk_app {c : Cm} (h : MayC c) (r : List Int) : decOk (encC c ++ r) = r.isEmpty := by
  unfold decOk
  rw [dec_enc_app limP_ok h, first_app]
  cases r <;> rfl
theorem rest_eq {a b : Cm} {x y : List Int} (h : (a, false, x) = (b, false, y)) : x = y := by
  injection h with _ h
  injection h
theorem decOk_cut {c : Cm} (h : MayC c) (hb : Byts (encC c)) {k : Nat} (hk : k < (encC c).length) : decOk ((encC c).take k) = false := by
  cases hd : decOk ((encC c).take k) with
  | false => rfl
  | true =>
    obtain ⟨g1, g2⟩ := decOk_dec (fun x hx => hb x (List.mem_of_mem_take hx)) hd
    have e1 := dec_enc_app limP_ok g1 ((encC c).drop k)
    rw [g2, List.take_append_drop, dec_enc limP_ok h] at e1
    have e2 := rest_eq e1
    have e3 := congrArg List.length e2
    rw [List.length_drop, List.length_nil] at e3
    omega
theorem decOk_more {c : Cm} (h : MayC c) (x : Int) : decOk (encC c ++ [x]) = false := decOk_app h [x]
end Go.Proofs.Ytlghaoohfklpnaa.E
/- WireBack: what is left to show. -/
namespace Go.Proofs.Ytlghaoohfklpnaa.E
open Go Go.RowKit
set_option maxRecDepth 100000
set_option linter.unusedVariables false
noncomputable def toCC (f : FuncId) : Con := ⟨f, [.fs 1 (.ints .u8 (.var 0))], conT toCT⟩
theorem toCC1_ok : ConOk Pr (toCC 19) := ConOk.ofF toC1_ok rfl
theorem toCC2_ok : ConOk Pr (toCC 31) := ConOk.ofF toC2_ok rfl
def intK : List K1 := [.int .i64]
def u8K : List K1 := [.int .u8]
theorem intK_ok : kindsT Pr 10 3 = some intK := by kernel_rfl
theorem u8K_ok : kindsT Pr 10 5 = some u8K := by kernel_rfl
def wbG : List (B × Bool) := [(smallC, true), (hideB mayB, true)]
def oneL (l : L) : Sub := ⟨[], [l], [], [], .ix⟩
def cutE : E := .bin .rem .i64 (.bin .and .i64 (.var 8) (.lit 65535)) (.len commitL)
def cutC : L := .cut commitL (.lit 0) cutE
def moreC : L := mkCat commitL (.cons (.var 9) .nil)
/-- a commit read from bytes, and the one that was written. -/
def backS (l : L) : Sub := ⟨[(dE 0).sub (oneL l), (dE 1).sub (oneL l), (dE 2).sub (oneL l), (dE 3).sub (oneL l), (dE 4).sub (oneL l), (dE 5).sub (oneL l), (dE 6).sub (oneL l), (dE 7).sub (oneL l), .var 0, .var 1, .var 2, .var 3, .var 4, .var 5, .var 6, .var 7], [.app 81 l .nil, .var 0], [.app 82 l .nil, .app 83 l .nil, .app 85 l .nil, .var 0, .var 1, .var 2], [], .ix⟩
def readRules (l : L) : List Rule := [⟨wbG, bytB l⟩, ⟨wbG, small29 l⟩, ⟨wbG, ltLen l⟩]
def wbRules : List Rule := lenRules ++ (readRules commitL ++ (readRules cutC ++ (readRules moreC ++
  [⟨wbG, .not (.eq (.len commitL) (.lit 0))⟩, ⟨wbG, .not (.lt cutE (.lit 0))⟩, ⟨wbG, .not (.lt (.len commitL) cutE)⟩, ⟨wbG, decB.sub (oneL commitL)⟩, ⟨wbG, .not (decB.sub (oneL cutC))⟩, ⟨wbG, .not (decB.sub (oneL moreC))⟩, ⟨wbG, (hideB sameB).sub (backS commitL)⟩,
   ⟨wbG, ltCnt (.app 82 commitL .nil)⟩, ⟨wbG, ltCnt (.app 83 commitL .nil)⟩, ⟨wbG, ltCnt (.app 85 commitL .nil)⟩])))
theorem u8_byts {l : List Int} (h : ∀ x ∈ l, IntKind.u8.has x) : Byts l := fun c hc => by
  have := h c hc
  exact ⟨this.1, this.2⟩
/-- what is known of a commit that may be. -/
structure WbF (ρ : Env) : Prop where
  may : MayC (cmOf ρ)
  enc : commitL.den ρ = encC (cmOf ρ)
  byts : Byts (encC (cmOf ρ))
  len : (encC (cmOf ρ)).length < 20000
  pos : 0 < (encC (cmOf ρ)).length
theorem wb_facts {ρ : Env} (h : CommitF ρ) (hs : holdAll ρ wbG) : WbF ρ := by
  have hm : (hideB mayB).den ρ = true := hs _ (List.mem_cons_of_mem _ (List.mem_cons_self ..))
  rw [hideB_den] at hm
  have ht := u8_byts h.tb
  have hmay := (may_den (fun r hr => (h.ra r hr).1) (fun r hr => (h.rb r hr).1) h.t ht).1 hm
  have henc := commit_den (ρ := ρ) (fun r hr => (h.ra r hr).1) (fun r hr => (h.rb r hr).1) h.t
  have hl := may_len hmay
  have hc := commit_len ρ
  rw [henc] at hc
  exact ⟨hmay, henc, encC_byts ht fun r hr => u8_byts (h.r r hr).2, by omega, by omega⟩
theorem oneL_l (ρ : Env) (l : L) : (ρ.sub (oneL l)).l 0 = l.den ρ := envL (s := oneL l) (i := 0) rfl
theorem oneL_nix {l : L} (h : l.nix = true) : (oneL l).nix := Sub.noix_ok (by
  show (Sub.noix _) = true
  unfold Sub.noix oneL
  simp [h])
theorem and_rg {a : Int} : 0 ≤ binI .and .i64 a 65535 := by
  show 0 ≤ IntKind.i64.wrap ((BitVec.ofInt 64 a &&& BitVec.ofInt 64 65535).toNat : Int)
  have h : (BitVec.ofInt 64 a &&& BitVec.ofInt 64 65535).toNat ≤ 65535 := by
    rw [BitVec.toNat_and]
    exact Nat.le_trans Nat.and_le_right (by decide)
  rw [wrapS (by omega) (by omega)]
  omega
theorem cutE_rg {ρ : Env} (h : WbF ρ) : 0 ≤ cutE.den ρ ∧ cutE.den ρ < ((encC (cmOf ρ)).length : Nat) := by
  have e : cutE.den ρ = (binI .and .i64 (ρ.e 8) 65535).tmod (((commitL.den ρ).length : Nat) : Int) := rfl
  rw [e, h.enc]
  have h0 : 0 ≤ binI .and .i64 (ρ.e 8) 65535 := and_rg
  have hp := h.pos
  exact ⟨Int.tmod_nonneg _ h0, Int.tmod_lt_of_pos _ (by omega)⟩
theorem cutC_den {ρ : Env} (h : WbF ρ) : cutC.den ρ = (encC (cmOf ρ)).take (cutE.den ρ).toNat := by
  show ((commitL.den ρ).take (cutE.den ρ).toNat).drop 0 = _
  rw [h.enc]; rfl
theorem moreC_den {ρ : Env} (h : WbF ρ) : moreC.den ρ = encC (cmOf ρ) ++ [ρ.e 9] := by
  unfold moreC
  rw [mkCat_den, h.enc]; rfl
theorem read_rules {ρ : Env} {l : L} {m : List Int} (h : holdAll ρ wbG → l.den ρ = m ∧ Byts m ∧ m.length < 30000) : ∀ r ∈ readRules l, r.Ok ρ := by
  refine all_cons (fun hs => ?_) (all_cons (fun hs => ?_) (all_cons (fun hs => ?_) all_nil))
  · obtain ⟨e, hb, _⟩ := h hs
    show (bytB l).den ρ = true
    rw [bytB_den, e]; exact hb
  · obtain ⟨e, _, hl⟩ := h hs
    show (small29 l).den ρ = true
    rw [small29_den, e]; omega
  · obtain ⟨e, _, hl⟩ := h hs
    show ltb (((l.den ρ).length : Nat) : Int) 1073741824 = true
    rw [e]; exact ltT (by omega)
theorem decB_one (ρ : Env) {l : L} (h : l.nix = true) : (decB.sub (oneL l)).den ρ = decOk (l.den ρ) := by
  rw [B.sub_den (oneL_nix h), decB_den, oneL_l]
theorem ll_one (ρ : Env) {l : L} (h : l.nix = true) (k : Nat) : (LL.app k l .nil).den ρ = (LL.app k (.var 0) .nil).den (ρ.sub (oneL l)) := LL.sub_den (oneL_nix h) ρ (.app k (.var 0) .nil)
theorem l_one (ρ : Env) {l : L} (h : l.nix = true) (k : Nat) : (L.app k l .nil).den ρ = (L.app k (.var 0) .nil).den (ρ.sub (oneL l)) := by
  show J k (l.den ρ) [] = J k ((ρ.sub (oneL l)).l 0) []
  rw [oneL_l]
theorem back_cm (ρ : Env) {l : L} (h : l.nix = true) : cmOf (ρ.sub (backS l)) = (dec limP (l.den ρ)).1 := by
  have e := decS_cm (ρ.sub (oneL l))
  rw [oneL_l] at e
  rw [← e]
  unfold cmOf
  rw [envE (s := backS l) (i := 0) rfl, envE (s := backS l) (i := 1) rfl, envE (s := backS l) (i := 2) rfl, envE (s := backS l) (i := 3) rfl, envE (s := backS l) (i := 4) rfl, envE (s := backS l) (i := 5) rfl, envE (s := backS l) (i := 6) rfl, envE (s := backS l) (i := 7) rfl, envL (s := backS l) (i := 0) rfl, envLL (s := backS l) (i := 0) rfl, envLL (s := backS l) (i := 1) rfl, envLL (s := backS l) (i := 2) rfl]
  rw [envE (s := decS) (i := 0) rfl, envE (s := decS) (i := 1) rfl, envE (s := decS) (i := 2) rfl, envE (s := decS) (i := 3) rfl, envE (s := decS) (i := 4) rfl, envE (s := decS) (i := 5) rfl, envE (s := decS) (i := 6) rfl, envE (s := decS) (i := 7) rfl, envL (s := decS) (i := 0) rfl, envLL (s := decS) (i := 0) rfl, envLL (s := decS) (i := 1) rfl, envLL (s := decS) (i := 2) rfl]
  rw [ll_one ρ h, ll_one ρ h, ll_one ρ h, l_one ρ h]
  simp only [E.sub_den (oneL_nix h)]
theorem back_cm2 (ρ : Env) (l : L) : cmOf2 (ρ.sub (backS l)) = cmOf ρ := by
  unfold cmOf2 cmOf
  rw [envE (s := backS l) (i := 8) rfl, envE (s := backS l) (i := 9) rfl, envE (s := backS l) (i := 10) rfl, envE (s := backS l) (i := 11) rfl, envE (s := backS l) (i := 12) rfl, envE (s := backS l) (i := 13) rfl, envE (s := backS l) (i := 14) rfl, envE (s := backS l) (i := 15) rfl, envL (s := backS l) (i := 1) rfl, envLL (s := backS l) (i := 3) rfl, envLL (s := backS l) (i := 4) rfl, envLL (s := backS l) (i := 5) rfl]
  rfl
theorem commitL_nix : commitL.nix = true := by kernel_rfl
theorem cutC_nix : cutC.nix = true := by kernel_rfl
theorem moreC_nix : moreC.nix = true := by kernel_rfl
theorem backS_nix : (backS commitL).noix = true := by kernel_rfl
theorem dec_rules {ρ : Env} (h : CommitF ρ) : ∀ r ∈ ([⟨wbG, decB.sub (oneL commitL)⟩, ⟨wbG, (hideB sameB).sub (backS commitL)⟩, ⟨wbG, ltCnt (.app 82 commitL .nil)⟩, ⟨wbG, ltCnt (.app 83 commitL .nil)⟩, ⟨wbG, ltCnt (.app 85 commitL .nil)⟩] : List Rule), r.Ok ρ := by
  have hd : ∀ hs : holdAll ρ wbG, dec limP (commitL.den ρ) = (cmOf ρ, false, []) := fun hs => by
    have f := wb_facts h hs
    rw [f.enc]; exact dec_enc limP_ok f.may
  have key : ∀ (ll : LL), (∀ hs : holdAll ρ wbG, (ll.den ρ).length ≤ 16) → Rule.Ok ρ ⟨wbG, ltCnt ll⟩ := fun ll hl hs => by
    have := hl hs
    show ltb (((ll.den ρ).length : Nat) : Int) 4611686018427387904 = true
    exact ltT (by omega)
  refine all_cons (fun hs => ?_) (all_cons (fun hs => ?_) (all_cons (key _ fun hs => ?_) (all_cons (key _ fun hs => ?_) (all_cons (key _ fun hs => ?_) all_nil))))
  · have f := wb_facts h hs
    show (decB.sub (oneL commitL)).den ρ = true
    rw [decB_one ρ commitL_nix, f.enc]; exact (decOk_enc f.may).1
  · show ((hideB sameB).sub (backS commitL)).den ρ = true
    rw [B.sub_den (Sub.noix_ok backS_nix), hideB_den]
    refine same_refl ?_
    rw [back_cm ρ commitL_nix, back_cm2, hd hs]
  · have f := wb_facts h hs
    have e : (LL.app 82 commitL .nil).den ρ = (dec limP (commitL.den ρ)).1.ops := rfl
    rw [e, hd hs]
    have := f.may.n1
    exact Nat.le_trans this (by decide)
  · have f := wb_facts h hs
    have e : (LL.app 83 commitL .nil).den ρ = (dec limP (commitL.den ρ)).1.vos := rfl
    rw [e, hd hs]
    have := f.may.n2
    exact Nat.le_trans this (by decide)
  · have f := wb_facts h hs
    have e : (LL.app 85 commitL .nil).den ρ = (dec limP (commitL.den ρ)).1.bxs := rfl
    rw [e, hd hs]
    exact f.may.n3
theorem wbRules_ok {ρ : Env} (h : CommitF ρ) (h9 : IntKind.u8.has (ρ.e 9)) : ∀ r ∈ wbRules, r.Ok ρ := by
  have hm : Byts [ρ.e 9] := fun c hc => by
    simp only [List.mem_cons, List.not_mem_nil, or_false] at hc
    subst hc; exact ⟨h9.1, h9.2⟩
  have hd := dec_rules h
  refine all_app (lenRules_ok h) (all_app (read_rules (m := encC (cmOf ρ)) fun hs => ?_) (all_app (read_rules (m := (encC (cmOf ρ)).take (cutE.den ρ).toNat) fun hs => ?_) (all_app (read_rules (m := encC (cmOf ρ) ++ [ρ.e 9]) fun hs => ?_) ?_)))
  · have f := wb_facts h hs
    exact ⟨f.enc, f.byts, by have := f.len; omega⟩
  · have f := wb_facts h hs
    exact ⟨cutC_den f, fun c hc => f.byts c (List.mem_of_mem_take hc), by have := f.len; rw [List.length_take]; omega⟩
  · have f := wb_facts h hs
    exact ⟨moreC_den f, f.byts.app hm, by have := f.len; simp only [List.length_append, List.length_cons, List.length_nil]; omega⟩
  · refine all_cons (fun hs => ?_) (all_cons (fun hs => ?_) (all_cons (fun hs => ?_) (all_cons (hd _ (List.mem_cons_self ..)) (all_cons (fun hs => ?_) (all_cons (fun hs => ?_) (fun r hr => hd r (List.mem_cons_of_mem _ hr)))))))
    · have f := wb_facts h hs
      have hp := f.pos
      show (!(eqb (((commitL.den ρ).length : Nat) : Int) 0)) = true
      rw [f.enc, eqb_eq, Bool.not_eq_true', Bool.beq_eq_decide_eq, decide_eq_false_iff_not]
      omega
    · have f := wb_facts h hs
      have hr := cutE_rg f
      show (!(ltb (cutE.den ρ) 0)) = true
      rw [ltb_eq, decide_eq_false (by omega)]; rfl
    · have f := wb_facts h hs
      have hr := cutE_rg f
      show (!(ltb (((commitL.den ρ).length : Nat) : Int) (cutE.den ρ))) = true
      rw [f.enc, ltb_eq, decide_eq_false (by omega)]; rfl
    · have f := wb_facts h hs
      have hr := cutE_rg f
      show (!((decB.sub (oneL cutC)).den ρ)) = true
      rw [decB_one ρ cutC_nix, cutC_den f, decOk_cut f.may f.byts (by omega)]; rfl
    · have f := wb_facts h hs
      show (!((decB.sub (oneL moreC)).den ρ)) = true
      rw [decB_one ρ moreC_nix, moreC_den f, decOk_more f.may]; rfl
end Go.Proofs.Ytlghaoohfklpnaa.E
/- Trees and views that may be: contracts. -/
namespace Go.Proofs.Ytlghaoohfklpnaa.E
open Go Go.RowKit
set_option maxRecDepth 100000
set_option linter.unusedVariables false
noncomputable def cfT : Cf := ⟨tabC [isC 161, isC 36], lpC [], hidMg⟩
theorem cfT_ok : CfOk Pr cfT := ⟨fun ρ => tabC_ok (all_cons isC1_ok (all_cons isC2_ok all_nil)), fun ρ => lpC_ok all_nil⟩
def zB (e : E) : B := .eq e (.lit 0)
def nB (e : E) : B := .not (zB e)
def orB (a b : B) : B := .not (.and (.not a) (.not b))
/-- a leaf's keys. -/
def leafX (s l : E) : B := .not (.and (.not (.and (zB s) (zB l))) (.not (.and (nB s) (nB l))))
def leafY (s l : E) : B := orB (.and (zB l) (leafX s l)) (.and (nB l) (.and (isB l) (leafX s l)))
def leafB (s l : E) : B := orB (.and (zB s) (leafY s l)) (.and (nB s) (.and (isB s) (leafY s l)))
def leafR (s l : E) : B := orB (.and (zB s) (.not (.and (nB l) (.not (.and (nB l) (.and (isB s) (isB l))))))) (.and (nB s) (.and (isB s) (isB l)))
/-- a node's key. -/
def nodeB (n : E) : B := .not (.and (nB n) (.not (.and (nB n) (isB n))))
def nodesB (o : Nat) : List B := (List.range 15).map fun i => bif Nat.beq (i % 2) 0 then zB (.var (o + (16 + i))) else hidB (nodeB (.var (o + (16 + i))))
def treeP (o : Nat) : B := andB (((List.range 8).map fun i => hidB (leafB (.var (o + 2 * i)) (.var (o + (2 * i + 1))))) ++ nodesB o)
def treeR (o : Nat) : B := andB (((List.range 8).map fun i => hidB (leafR (.var (o + 2 * i)) (.var (o + (2 * i + 1))))) ++ nodesB o)
def treeA (o : Nat) : List V := (List.range 31).map fun i => ival (o + i)
def treeC (f : FuncId) : Con := ⟨f, [.agg (treeA 0)], .leaf (.bool (hideB (treeP 0)), [])⟩
theorem treeP_t : shutT (exec Pr cfT 200 12 137 [.agg (treeA 0)]) = .leaf (.bool (treeP 0), []) := by kernel_rfl
theorem treeR_t : shutT (exec Pr cfT 200 12 11 [.agg (treeA 0)]) = .leaf (.bool (treeR 0), []) := by kernel_rfl
/-- a truth in other words. -/
theorem Con.eqB {P : Program} {g : FuncId} {args : List V} {b b' : B} {fs : List B} (h : ConOk P ⟨g, args, .leaf (.bool b, fs)⟩) (he : ∀ ρ : Env, b.den ρ = b'.den ρ) : ConOk P ⟨g, args, .leaf (.bool b', fs)⟩ := by
  refine Con.alt h fun ρ r' bs' hp hok => ?_
  cases hp
  exact ⟨_, _, rfl, hok, V.imp.bool (he ρ)⟩
theorem zB_den (ρ : Env) (e : E) : (zB e).den ρ = (e.den ρ == 0) := eqb_eq ..
theorem isB_i (ρ : Env) (e : E) : (isB e).den ρ = (isM (e.den ρ) == 1) := by rw [isB_den, eqb_eq]
theorem is0 (ρ : Env) (e : E) (h : (zB e).den ρ = true) : (isB e).den ρ = false := by
  rw [zB_den, beq_iff_eq] at h
  rw [isB_i, h]; rfl
theorem orB_den (ρ : Env) (a b : B) : (orB a b).den ρ = (a.den ρ || b.den ρ) := by
  show (!((!a.den ρ) && (!b.den ρ))) = _
  cases a.den ρ <;> cases b.den ρ <;> rfl
theorem leafB_den (ρ : Env) (s l : E) : (leafB s l).den ρ = (((zB s).den ρ && (zB l).den ρ) || ((isB s).den ρ && (isB l).den ρ)) := by
  unfold leafB leafY leafX nB
  simp only [orB_den, B.den]
  have h1 := is0 ρ s; have h2 := is0 ρ l
  cases hs : (zB s).den ρ <;> cases hl : (zB l).den ρ <;> simp_all
theorem leafR_den (ρ : Env) (s l : E) : (leafR s l).den ρ = (((zB s).den ρ && (zB l).den ρ) || ((isB s).den ρ && (isB l).den ρ)) := by
  unfold leafR nB
  rw [orB_den]
  simp only [B.den]
  have h1 := is0 ρ s; have h2 := is0 ρ l
  cases hs : (zB s).den ρ <;> cases hl : (zB l).den ρ <;> simp_all
theorem nodeB_den (ρ : Env) (n : E) : (nodeB n).den ρ = ((zB n).den ρ || (isB n).den ρ) := by
  unfold nodeB nB
  simp only [B.den]
  cases hs : (zB n).den ρ <;> simp_all
theorem andB_map {α : Type} (ρ : Env) (f g : α → B) (l : List α) (m : List B) (h : ∀ x ∈ l, (f x).den ρ = (g x).den ρ) : (andB (l.map f ++ m)).den ρ = (andB (l.map g ++ m)).den ρ := by
  rw [Bool.eq_iff_iff, andB_den, andB_den]
  simp only [forall_app, List.mem_map, forall_exists_index, and_imp, forall_apply_eq_imp_iff₂]
  constructor
  · rintro ⟨h1, h2⟩; exact ⟨fun a ha => by rw [← h a ha]; exact h1 a ha, h2⟩
  · rintro ⟨h1, h2⟩; exact ⟨fun a ha => by rw [h a ha]; exact h1 a ha, h2⟩
theorem treeR_P (ρ : Env) (o : Nat) : (treeR o).den ρ = (treeP o).den ρ := andB_map ρ _ _ _ _ fun i _ => by
  show (hidB _).den ρ = (hidB _).den ρ
  rw [hidB_den, hidB_den, leafR_den, leafB_den]
theorem tree1_ok : ConOk Pr (treeC 137) := Con.hide (Con.ofExec hm cfT_ok (fuel := 200) (depth := 12) rfl treeP_t)
theorem tree2_ok : ConOk Pr (treeC 11) := Con.hide (Con.eqB (Con.ofExec hm cfT_ok (fuel := 200) (depth := 12) rfl treeR_t) fun ρ => treeR_P ρ 0)
end Go.Proofs.Ytlghaoohfklpnaa.E
/- Nodes by which those below a node are reached: contracts. -/
namespace Go.Proofs.Ytlghaoohfklpnaa.E
open Go Go.RowKit
set_option maxRecDepth 100000
set_option linter.unusedVariables false
def treeEs (o : Nat) : L := consL ((List.range 31).map fun i => .var (o + i))
def resL (j : Nat) : L := .app 50 (.cons (.lit (.ofNat j)) (treeEs 0)) .nil
def emB (j : Nat) : B := .eq (.len (resL j)) (.lit 0)
def resO (l : L) : List (Nat × Ob) := [(0, ⟨.ints .i64 l, true, 3⟩)]
def resQ (l : L) : FRes := ⟨.sl 0 0 (.lit 0) (.len l) 1 true, 1, resO l, []⟩
def resF (f : FuncId) (j : Nat) (ok : List B) : FCon := ⟨f, [.agg (treeA 0), .int .i64 (.lit (.ofNat j))], 0, [], .leaf ⟨.sl 0 0 (.lit 0) (.len (resL j)) 1 true, 1, resO (resL j), ok⟩⟩
def tr31 (ρ : Env) : List Int := (List.range 31).map fun i => ρ.e (0 + i)
theorem resK_rg : ∀ (k j : Nat) (t : List Int), ∀ x ∈ resK k j t, 0 ≤ x ∧ x ≤ (j + 4 * k : Nat)
  | 0, j, t, x, h => by cases h
  | k + 1, j, t, x, h => by
    unfold resK at h
    cases hc : keyAt t j == 0 with
    | false =>
      rw [hc, cond_false] at h
      simp only [List.mem_cons, List.not_mem_nil, or_false] at h
      subst h; omega
    | true =>
      rw [hc, cond_true] at h
      cases hd : Nat.beq (j % 2) 0 with
      | true => rw [hd] at h; cases h
      | false =>
        rw [hd, cond_false] at h
        have hh : halfN j ≤ 4 := by
          unfold halfN
          cases Nat.beq (j % 4) 1 <;> cases Nat.beq (j % 8) 3 <;> decide
        rcases List.mem_append.1 h with h | h
        · have := resK_rg k _ t x h; omega
        · have := resK_rg k _ t x h; omega
theorem resK_len : ∀ (k j : Nat) (t : List Int), (resK k j t).length ≤ 2 ^ k
  | 0, j, t => by simp [resK]
  | k + 1, j, t => by
    unfold resK
    have h1 := resK_len k (j - halfN j) t
    have h2 := resK_len k (j + halfN j) t
    have h3 : 1 ≤ 2 ^ (k + 1) := Nat.one_le_two_pow
    cases keyAt t j == 0 with
    | false => exact h3
    | true =>
      cases Nat.beq (j % 2) 0 with
      | true => exact Nat.zero_le _
      | false =>
        show (resK k (j - halfN j) t ++ resK k (j + halfN j) t).length ≤ _
        rw [List.length_append]; omega
theorem resL_den (ρ : Env) (j : Nat) (hj : j < 15) : (resL j).den ρ = resM j (tr31 ρ) := by
  show (resM ((((j : Int)) :: (treeEs 0).den ρ).getD 0 0).toNat ((treeEs 0).den ρ)).map IntKind.i64.wrap = _
  have e : (treeEs 0).den ρ = tr31 ρ := by
    unfold treeEs tr31
    rw [consL_den, List.map_map]; rfl
  rw [e]
  show (resM ((j : Int)).toNat (tr31 ρ)).map IntKind.i64.wrap = _
  rw [Int.toNat_natCast]
  conv => rhs; rw [← List.map_id (resM j (tr31 ρ))]
  refine List.map_congr_left fun x hx => ?_
  have := resK_rg 4 j _ x hx
  exact wrapS (by omega) (by omega)
theorem tr31_at (ρ : Env) {i : Nat} (h : i < 31) : (tr31 ρ).getD i 0 = ρ.e i := by
  unfold tr31
  rw [List.getD, List.getElem?_map, List.getElem?_range h]
  show ρ.e (0 + i) = ρ.e i
  rw [Nat.zero_add]
def lenOf (ρ : Env) (l m : L) : Prop := l.den ρ = m.den ρ
theorem V.imp.slL {ρ : Env} {id : Nat} {a b : E} (h : a.den ρ = b.den ρ) : V.imp ρ (.sl id 0 (.lit 0) a 1 true) (.sl id 0 (.lit 0) b 1 true) := fun β x hβ hr => by
  obtain ⟨q, hq, h1, h2⟩ := (show R0 β (.sl id 0 (.lit 0) a 1 true) x from hr)
  have e : a.den β.g.env = b.den β.g.env := by rw [hβ, h]
  rw [e] at h1 h2
  exact ⟨q, hq, h1, h2⟩
theorem resO_imp {ρ : Env} {l m : L} (h : l.den ρ = m.den ρ) : Sto.imp ρ (obOf (resO l)).get (obOf (resO m)).get :=
  ImpOb.ok ⟨⟨rfl, rfl, rfl⟩, fun β xs hβ hr => by
    have hr : xs = (l.den β.g.env).map (.int .i64) := by simpa only [RH, Fr] using hr
    show RH β (.ints .i64 m) xs
    simp only [RH, Fr]
    rw [hr, hβ, h], trivial⟩
theorem sl_imp {ρ : Env} {l m : L} {e : E} (h : l.den ρ = m.den ρ) (he : e.den ρ = (E.len l).den ρ) : V.imp ρ (.sl 0 0 (.lit 0) e 1 true) (.sl 0 0 (.lit 0) (.len m) 1 true) := V.imp.slL (by
  rw [he]
  show (((l.den ρ).length : Nat) : Int) = (((m.den ρ).length : Nat) : Int)
  rw [h])
def oneQ (j : Nat) : FRes := ⟨.sl 0 0 (.lit 0) (.lit 1) 1 true, 1, resO (.cons (.lit (.ofNat j)) .nil), []⟩
def catQ (a b : Nat) : FRes := ⟨.sl 0 0 (.lit 0) (.len (.cat (resL a) (resL b))) 1 true, 1, resO (.cat (resL a) (resL b)), [ltLen (.cat (resL a) (resL b))]⟩
theorem keyB_den (ρ : Env) (i : Nat) : (zB (.var i)).den ρ = (ρ.e i == 0) := zB_den ρ (.var i)
theorem one_key {ρ : Env} {j i : Nat} (hj : j < 15) (hi : i < 31) (hk : keyAt (tr31 ρ) j = (tr31 ρ).getD i 0) (h : (zB (.var i)).den ρ = false) : (L.cons (.lit (.ofNat j)) .nil).den ρ = (resL j).den ρ := by
  rw [resL_den ρ j hj]
  rw [keyB_den] at h
  show [(j : Int)] = resK 4 j (tr31 ρ)
  unfold resK
  rw [hk, tr31_at ρ hi, h]; rfl
theorem resEven {f : FuncId} {j : Nat} (hj : j < 15) (he : j % 2 = 0) (h : FConOk Pr ⟨f, [.agg (treeA 0), .int .i64 (.lit (.ofNat j))], 0, [], .br (zB (.var (j + 1))) (.leaf ⟨.sc (.slice none 0 0), 0, [], []⟩) (.leaf (oneQ j))⟩) : FConOk Pr (resF f j []) := by
  have hk : ∀ ρ, keyAt (tr31 ρ) j = (tr31 ρ).getD (j + 1) 0 := fun ρ => by unfold keyAt; rw [he]; rfl
  refine FCon.altN h fun ρ q' hp hq => ?_
  cases hp
  simp only [T.pick]
  cases hb : (zB (.var (j + 1))).den ρ with
  | true =>
    refine ⟨_, rfl, no_ok ρ, .inr ⟨rfl, resL j, .i64, 3, ?_, rfl, rfl, rfl⟩⟩
    rw [resL_den ρ j hj]
    rw [keyB_den] at hb
    show resK 4 j (tr31 ρ) = []
    unfold resK
    rw [hk, tr31_at ρ (by omega), hb, he]; rfl
  | false =>
    have e := one_key hj (by omega) (hk ρ) hb
    exact ⟨_, rfl, no_ok ρ, .inl ⟨sl_imp e rfl, rfl, resO_imp e⟩⟩
theorem resOdd {f : FuncId} {j a b : Nat} (hj : j < 15) (ha : a < 15) (hb : b < 15) (ho : j % 2 = 1) (hm : ∀ t, resM j t = bif keyAt t j == 0 then resM a t ++ resM b t else [(j : Int)])
    (h : FConOk Pr ⟨f, [.agg (treeA 0), .int .i64 (.lit (.ofNat j))], 0, [], .br (zB (.var (16 + j))) (.leaf (catQ a b)) (.leaf (oneQ j))⟩) : FConOk Pr (resF f j []) := by
  have hk : ∀ ρ, keyAt (tr31 ρ) j = (tr31 ρ).getD (16 + j) 0 := fun ρ => by unfold keyAt; rw [ho]; rfl
  refine FCon.altN h fun ρ q' hp hq => ?_
  cases hp
  simp only [T.pick]
  cases hc : (zB (.var (16 + j))).den ρ with
  | true =>
    have e : (L.cat (resL a) (resL b)).den ρ = (resL j).den ρ := by
      show (resL a).den ρ ++ (resL b).den ρ = _
      rw [keyB_den] at hc
      rw [resL_den ρ a ha, resL_den ρ b hb, resL_den ρ j hj, hm, hk, tr31_at ρ (by omega), hc, cond_true]
    refine ⟨_, rfl, fun x hx => ?_, .inl ⟨sl_imp e rfl, rfl, resO_imp e⟩⟩
    have hx : x = ltLen (.cat (resL a) (resL b)) := by
      have := hx
      simp only [catQ, List.mem_cons, List.not_mem_nil, or_false] at this
      exact this
    subst hx
    show ltb ((((L.cat (resL a) (resL b)).den ρ).length : Nat) : Int) 1073741824 = true
    rw [e, resL_den ρ j hj]
    have := resK_len 4 j (tr31 ρ)
    exact ltT (by show (((resK 4 j (tr31 ρ)).length : Nat) : Int) < _; omega)
  | false =>
    have e := one_key hj (by omega) (hk ρ) hc
    exact ⟨_, rfl, no_ok ρ, .inl ⟨sl_imp e rfl, rfl, resO_imp e⟩⟩
noncomputable def cfRs (l : List FCon) : Cf := ⟨tabF l noTab, lpC [], noMg⟩
theorem cfRs_ok {l : List FCon} (h : ∀ c ∈ l, FConOk Pr c) : CfOk Pr (cfRs l) := ⟨fun ρ => tabF_ok (noTab_ok Pr ρ) h, fun ρ => lpC_ok all_nil⟩
theorem res1_0 : FConOk Pr (resF 12 0 []) := resEven (by decide) rfl (FCon.ofExec hm (cfRs_ok (l := []) all_nil) (fuel := 100) (depth := 12) (by kernel_rfl))
theorem res1_2 : FConOk Pr (resF 12 2 []) := resEven (by decide) rfl (FCon.ofExec hm (cfRs_ok (l := []) all_nil) (fuel := 100) (depth := 12) (by kernel_rfl))
theorem res1_4 : FConOk Pr (resF 12 4 []) := resEven (by decide) rfl (FCon.ofExec hm (cfRs_ok (l := []) all_nil) (fuel := 100) (depth := 12) (by kernel_rfl))
theorem res1_6 : FConOk Pr (resF 12 6 []) := resEven (by decide) rfl (FCon.ofExec hm (cfRs_ok (l := []) all_nil) (fuel := 100) (depth := 12) (by kernel_rfl))
theorem res1_8 : FConOk Pr (resF 12 8 []) := resEven (by decide) rfl (FCon.ofExec hm (cfRs_ok (l := []) all_nil) (fuel := 100) (depth := 12) (by kernel_rfl))
theorem res1_10 : FConOk Pr (resF 12 10 []) := resEven (by decide) rfl (FCon.ofExec hm (cfRs_ok (l := []) all_nil) (fuel := 100) (depth := 12) (by kernel_rfl))
theorem res1_12 : FConOk Pr (resF 12 12 []) := resEven (by decide) rfl (FCon.ofExec hm (cfRs_ok (l := []) all_nil) (fuel := 100) (depth := 12) (by kernel_rfl))
theorem res1_14 : FConOk Pr (resF 12 14 []) := resEven (by decide) rfl (FCon.ofExec hm (cfRs_ok (l := []) all_nil) (fuel := 100) (depth := 12) (by kernel_rfl))
theorem res1_1 : FConOk Pr (resF 12 1 []) := resOdd (a := 0) (b := 2) (by decide) (by decide) (by decide) rfl (fun _ => rfl) (FCon.ofExec hm (cfRs_ok (l := [resF 12 0 [], resF 12 2 []]) (all_cons res1_0 (all_cons res1_2 all_nil))) (fuel := 100) (depth := 12) (by kernel_rfl))
theorem res1_5 : FConOk Pr (resF 12 5 []) := resOdd (a := 4) (b := 6) (by decide) (by decide) (by decide) rfl (fun _ => rfl) (FCon.ofExec hm (cfRs_ok (l := [resF 12 4 [], resF 12 6 []]) (all_cons res1_4 (all_cons res1_6 all_nil))) (fuel := 100) (depth := 12) (by kernel_rfl))
theorem res1_9 : FConOk Pr (resF 12 9 []) := resOdd (a := 8) (b := 10) (by decide) (by decide) (by decide) rfl (fun _ => rfl) (FCon.ofExec hm (cfRs_ok (l := [resF 12 8 [], resF 12 10 []]) (all_cons res1_8 (all_cons res1_10 all_nil))) (fuel := 100) (depth := 12) (by kernel_rfl))
theorem res1_13 : FConOk Pr (resF 12 13 []) := resOdd (a := 12) (b := 14) (by decide) (by decide) (by decide) rfl (fun _ => rfl) (FCon.ofExec hm (cfRs_ok (l := [resF 12 12 [], resF 12 14 []]) (all_cons res1_12 (all_cons res1_14 all_nil))) (fuel := 100) (depth := 12) (by kernel_rfl))
theorem res1_3 : FConOk Pr (resF 12 3 []) := resOdd (a := 1) (b := 5) (by decide) (by decide) (by decide) rfl (fun _ => rfl) (FCon.ofExec hm (cfRs_ok (l := [resF 12 1 [], resF 12 5 []]) (all_cons res1_1 (all_cons res1_5 all_nil))) (fuel := 100) (depth := 12) (by kernel_rfl))
theorem res1_11 : FConOk Pr (resF 12 11 []) := resOdd (a := 9) (b := 13) (by decide) (by decide) (by decide) rfl (fun _ => rfl) (FCon.ofExec hm (cfRs_ok (l := [resF 12 9 [], resF 12 13 []]) (all_cons res1_9 (all_cons res1_13 all_nil))) (fuel := 100) (depth := 12) (by kernel_rfl))
theorem res1_7 : FConOk Pr (resF 12 7 []) := resOdd (a := 3) (b := 11) (by decide) (by decide) (by decide) rfl (fun _ => rfl) (FCon.ofExec hm (cfRs_ok (l := [resF 12 3 [], resF 12 11 []]) (all_cons res1_3 (all_cons res1_11 all_nil))) (fuel := 100) (depth := 12) (by kernel_rfl))
end Go.Proofs.Ytlghaoohfklpnaa.E
/- How many nodes of a row a leaf is under: the law's own loop. -/
namespace Go.Proofs.Ytlghaoohfklpnaa.E
open Go Go.RowKit
set_option maxRecDepth 100000
set_option linter.unusedVariables false
noncomputable def cfU : Cf := ⟨noTab, lpC [], allMg⟩
theorem cfU_ok : CfOk Pr cfU := ⟨fun ρ => noTab_ok Pr ρ, fun ρ => lpC_ok all_nil⟩
def cuOb : List (Nat × Ob) := [(5, ⟨.ints .i64 (.var 0), true, 3⟩), (0, ⟨.any (treeA 2), true, 27⟩)]
def cuR31 : List E := (List.range 31).map fun i => .var (2 + i)
def cuFr (i : Nat) (e : E) : List (Nat × V) := [(5, .sl 5 0 (.lit 0) (.len (.var 0)) 1 true), (6, .int .i64 (.lit (.ofNat i))), (7, .int .i64 e)]
def cuH (i : Nat) : LHead := ⟨cuFr i (.var 1) ++ [(8, ival 0)], 6, [], cuOb⟩
def cuX : E := .get (.var 0) (.var 0)
def cuN : E := .bin .add .i64 (.var 1) (.lit 1)
def cuE (i : Nat) : E := .ite (.lt cuX (.lit 0)) (.var 1) (.ite (.lt cuX (.lit 15)) (.ite (.eq (.lit (.ofNat (2 * i))) cuX) cuN (.ite (.eq (.lit (.ofNat (i / 2 * 4 + 1))) cuX) cuN (.ite (.eq (.lit (.ofNat (i / 4 * 8 + 3))) cuX) cuN (.ite (.eq (.lit 7) cuX) cuN (.var 1))))) (.var 1))
def cuS (i : Nat) : Sub := ⟨.bin .add .i64 (.var 0) (.lit 1) :: cuE i :: cuR31, [.var 0], [], [], .ix⟩
def cuIx : B := .and (.not (.lt (.var 0) (.lit 0))) (.lt (.var 0) (.len (.var 0)))
def cuT (i : Nat) : T LEnd := .br (.lt (.var 0) (.len (.var 0))) (.leaf (.go (cuS i) [cuIx, cuIx])) (.leaf (.out ⟨.exit 2, cuFr i (.var 1), 6, cuOb, []⟩))
def cuL (i : Nat) (n : E) (l : L) : E := .get (.app 51 (.cons (.lit (.ofNat i)) (.cons n l)) .nil) (.lit 0)
def cuR (i : Nat) : T LRes := .leaf ⟨.exit 2, cuFr i (cuL i (.var 1) (restL (.var 0) (.var 0))), 6, cuOb, [.not (.lt (.var 0) (.lit 0)), .not (.lt (.len (.var 0)) (.var 0)), ltLen (.var 0), .eq (.var 1) (.lit 0)]⟩
def cuI (ρ : Env) : Prop := 0 ≤ ρ.e 0 ∧ ρ.e 0 ≤ ((ρ.l 0).length : Nat) ∧ (ρ.l 0).length < 1073741824 ∧ 0 ≤ ρ.e 1 ∧ ρ.e 1 ≤ ρ.e 0
theorem cu0 : roundH Pr cfU 100 12 3 10 (cuH 0) [] [5, 6, 7] [5, 0] = cuT 0 := by kernel_rfl
theorem cu1 : roundH Pr cfU 100 12 3 10 (cuH 1) [] [5, 6, 7] [5, 0] = cuT 1 := by kernel_rfl
theorem cu2 : roundH Pr cfU 100 12 3 10 (cuH 2) [] [5, 6, 7] [5, 0] = cuT 2 := by kernel_rfl
theorem cu3 : roundH Pr cfU 100 12 3 10 (cuH 3) [] [5, 6, 7] [5, 0] = cuT 3 := by kernel_rfl
theorem cu4 : roundH Pr cfU 100 12 3 10 (cuH 4) [] [5, 6, 7] [5, 0] = cuT 4 := by kernel_rfl
theorem cu5 : roundH Pr cfU 100 12 3 10 (cuH 5) [] [5, 6, 7] [5, 0] = cuT 5 := by kernel_rfl
theorem cu6 : roundH Pr cfU 100 12 3 10 (cuH 6) [] [5, 6, 7] [5, 0] = cuT 6 := by kernel_rfl
theorem cu7 : roundH Pr cfU 100 12 3 10 (cuH 7) [] [5, 6, 7] [5, 0] = cuT 7 := by kernel_rfl
theorem cuL_den (ρ : Env) (i : Nat) (n : E) (l : L) : (cuL i n l).den ρ = IntKind.i64.wrap (cntU i (n.den ρ) (l.den ρ)) := rfl
theorem cu_step (x n : Int) {i : Nat} (hi : i < 8) : (bif ltb x 0 then n else bif ltb x 15 then (bif eqb (2 * i : Nat) x then IntKind.i64.wrap (n + 1) else bif eqb (i / 2 * 4 + 1 : Nat) x then IntKind.i64.wrap (n + 1) else bif eqb (i / 4 * 8 + 3 : Nat) x then IntKind.i64.wrap (n + 1) else bif eqb 7 x then IntKind.i64.wrap (n + 1) else n) else n) = bif underN x i then IntKind.i64.wrap (n + 1) else n := by
  simp only [ltb_eq, eqb_eq, underN]
  by_cases h0 : x < 0
  · have : ¬ (0 ≤ x) := by omega
    simp [h0, this]
  · by_cases h1 : x < 15
    · have g0 : 0 ≤ x := by omega
      have g1 : (0 : Int) ≤ (i : Int) := by omega
      have g2 : (i : Int) < 8 := by omega
      simp only [h0, h1, g0, g1, g2, decide_true, decide_false, cond_true, cond_false, Bool.true_and, Int.natCast_mul, Int.natCast_add, Int.natCast_ediv]
      have c : ∀ (a b : Int), (a == b) = (b == a) := fun a b => by rw [Bool.eq_iff_iff]; simp only [beq_iff_eq]; exact eq_comm
      rw [c _ x, c _ x, c _ x, c _ x]
      cases (x == ((2 : Nat) : Int) * (i : Int)) <;> cases (x == (i : Int) / ((2 : Nat) : Int) * ((4 : Nat) : Int) + ((1 : Nat) : Int)) <;> cases (x == (i : Int) / ((4 : Nat) : Int) * ((8 : Nat) : Int) + ((3 : Nat) : Int)) <;> cases (x == 7) <;> rfl
    · simp [h0, h1]
theorem cntU_rg (i : Int) : ∀ (l : List Int) (n : Int), 0 ≤ n → n + (l.length : Nat) < 9223372036854775807 → 0 ≤ cntU i n l ∧ cntU i n l ≤ n + (l.length : Nat)
  | [], n, h0, h1 => by unfold cntU; simp; omega
  | x :: l, n, h0, h1 => by
    unfold cntU
    rw [List.length_cons] at h1 ⊢
    have hw : IntKind.i64.wrap (n + 1) = n + 1 := wrap_id .i64 _ (by show (-9223372036854775808 : Int) ≤ _; omega) (by show _ ≤ (9223372036854775807 : Int); omega)
    rw [hw]
    cases underN x i with
    | true => have := cntU_rg i l (n + 1) (by omega) (by omega); rw [cond_true]; omega
    | false => have := cntU_rg i l n h0 (by omega); rw [cond_false]; omega
theorem cuHead {i : Nat} (hi : i < 8) (hr : roundH Pr cfU 100 12 3 10 (cuH i) [] [5, 6, 7] [5, 0] = cuT i) : HeadOk Pr 3 10 (cuH i) cuI (cuR i) := by
  refine HeadOk.of hm cfU_ok hr cuI (fun ρ => (((ρ.l 0).length : Nat) - ρ.e 0).toNat) _ (fun ρ _ x hx => by cases hx) fun ρ r hI hp => ?_
  cases hp
  obtain ⟨h1, h2, h3, h4, h5⟩ := hI
  have w1 : ∀ x : Int, 0 ≤ x → x < 9223372036854775807 → IntKind.i64.wrap x = x := fun x a b => wrap_id .i64 _ (by show (-9223372036854775808 : Int) ≤ _; omega) (by show _ ≤ (9223372036854775807 : Int); omega)
  unfold cuT
  simp only [T.pick]
  have hb : (B.lt (.var 0) (.len (.var 0))).den ρ = ltb (ρ.e 0) ((ρ.l 0).length : Nat) := rfl
  rw [hb]
  cases hc : ltb (ρ.e 0) ((ρ.l 0).length : Nat) with
  | true =>
    have hlt : ρ.e 0 < ((ρ.l 0).length : Nat) := ltb_ok hc
    have hd := drop_at (l := ρ.l 0) (d := 0) h1 hlt
    have e0 : (ρ.sub (cuS i)).e 0 = ρ.e 0 + 1 := add1 h1 hlt (by omega)
    have e1 : (ρ.sub (cuS i)).e 1 = bif underN ((ρ.l 0).getD (ρ.e 0).toNat 0) i then IntKind.i64.wrap (ρ.e 1 + 1) else ρ.e 1 := by
      rw [← cu_step _ _ hi]; rfl
    have el : (ρ.sub (cuS i)).l 0 = ρ.l 0 := rfl
    have ew : IntKind.i64.wrap (ρ.e 1 + 1) = ρ.e 1 + 1 := w1 _ (by omega) (by omega)
    have hn : 0 ≤ (ρ.sub (cuS i)).e 1 ∧ (ρ.sub (cuS i)).e 1 ≤ ρ.e 0 + 1 := by
      rw [e1, ew]
      cases underN ((ρ.l 0).getD (ρ.e 0).toNat 0) i <;> simp <;> omega
    refine ⟨_, rfl, ?_, fun hs => ?_⟩
    · intro b hb
      simp only [List.mem_cons, List.not_mem_nil, or_false, or_self] at hb
      subst hb
      show ((!(ltb (ρ.e 0) 0)) && ltb (ρ.e 0) ((ρ.l 0).length : Nat)) = true
      rw [hc, ltb_eq, decide_eq_false (by omega)]; rfl
    · refine ⟨⟨by rw [e0]; omega, by rw [e0, el]; omega, by rw [el]; exact h3, hn.1, by rw [e0]; exact hn.2⟩, by rw [e0, el]; omega, _, rfl, ?_⟩
      unfold LRes.subst
      have hob : cuOb.map (fun p => (p.1, p.2.sub (cuS i))) = cuOb := rfl
      simp only
      rw [hob]
      refine LRes.mk_imp (fr := cuFr i ((cuL i (.var 1) (restL (.var 0) (.var 0))).sub (cuS i))) (fr' := cuFr i (cuL i (.var 1) (restL (.var 0) (.var 0)))) ⟨rfl, V.imp.refl _ _, rfl, V.imp.refl _ _, rfl, V.imp.int ?_, trivial⟩ (ImpOb.refl _ _)
      rw [E.sub_den hs, cuL_den, cuL_den, restL_den, restL_den]
      show IntKind.i64.wrap (cntU i ((ρ.sub (cuS i)).e 1) (((ρ.sub (cuS i)).l 0).drop ((ρ.sub (cuS i)).e 0).toNat)) = IntKind.i64.wrap (cntU i (ρ.e 1) ((ρ.l 0).drop (ρ.e 0).toNat))
      rw [e0, e1, el, hd]
      rfl
  | false =>
    have hge : ((ρ.l 0).length : Nat) ≤ ρ.e 0 := ltb_no hc
    have hz : (ρ.e 0).toNat = (ρ.l 0).length := by omega
    refine ⟨_, rfl, fun b hb => (by cases hb), LRes.mk_imp ⟨rfl, V.imp.refl _ _, rfl, V.imp.refl _ _, rfl, V.imp.int ?_, trivial⟩ (ImpOb.refl _ _), by simp⟩
    rw [cuL_den, restL_den]
    show ρ.e 1 = IntKind.i64.wrap (cntU i (ρ.e 1) ((ρ.l 0).drop (ρ.e 0).toNat))
    rw [hz, List.drop_length]
    exact (w1 _ h4 (by omega)).symm
def cu0S : Sub := ⟨.lit 0 :: .lit 0 :: cuR31, [.var 0], [], [], .ix⟩
noncomputable def cuC (i : Nat) : LCon := lcon 3 10 (theDs Pr 3 10) (cuH i) [] cu0S (cuR i)
theorem cuC_of {i : Nat} (hi : i < 8) (hr : roundH Pr cfU 100 12 3 10 (cuH i) [] [5, 6, 7] [5, 0] = cuT i) (hds : dsOk Pr 3 10 (theDs Pr 3 10) = true) : LConOk Pr (cuC i) :=
  LConOk.ofS (cuHead hi hr) [] cu0S rfl hds rfl rfl fun ρ r hp hok => by
    cases hp
    have h3 : (((ρ.l 0).length : Nat) : Int) < 1073741824 := ltb_ok (a := ((ρ.l 0).length : Nat)) (by
      have := hok ((ltLen (.var 0)).sub cu0S) (by simp)
      rwa [B.sub_den (Sub.noix_ok rfl)] at this)
    exact ⟨Int.le_refl _, by show (0 : Int) ≤ ((ρ.l 0).length : Nat); omega, by show (ρ.l 0).length < _; omega, Int.le_refl _, Int.le_refl _⟩
theorem cuDs : dsOk Pr 3 10 (theDs Pr 3 10) = true := by kernel_rfl
theorem cuC0_ok : LConOk Pr (cuC 0) := cuC_of (by decide) cu0 cuDs
theorem cuC1_ok : LConOk Pr (cuC 1) := cuC_of (by decide) cu1 cuDs
theorem cuC2_ok : LConOk Pr (cuC 2) := cuC_of (by decide) cu2 cuDs
theorem cuC3_ok : LConOk Pr (cuC 3) := cuC_of (by decide) cu3 cuDs
theorem cuC4_ok : LConOk Pr (cuC 4) := cuC_of (by decide) cu4 cuDs
theorem cuC5_ok : LConOk Pr (cuC 5) := cuC_of (by decide) cu5 cuDs
theorem cuC6_ok : LConOk Pr (cuC 6) := cuC_of (by decide) cu6 cuDs
theorem cuC7_ok : LConOk Pr (cuC 7) := cuC_of (by decide) cu7 cuDs
end Go.Proofs.Ytlghaoohfklpnaa.E
/- TreeRoot: what is left to show. -/
namespace Go.Proofs.Ytlghaoohfklpnaa.E
open Go Go.RowKit
set_option maxRecDepth 100000
set_option linter.unusedVariables false
def known7C : Con := ⟨15, [], .leaf (.bool (.lit true), [])⟩
theorem known7_ok : ConOk Pr known7C := Con.ofExec hm (cf := ⟨noTab, lpC [], noMg⟩) cfL_ok (fuel := 4000) (depth := 40) rfl (by kernel_rfl)
noncomputable def cfTR : Cf := ⟨tabF [resF 12 3 [], resF 12 11 []] (tabC [treeC 11, known7C]), lpC [cuC 0, cuC 1, cuC 2, cuC 3, cuC 4, cuC 5, cuC 6, cuC 7], fun f => bif Nat.beq f 3 then 3 else 0⟩
theorem cfTR_ok : CfOk Pr cfTR := ⟨fun ρ => tabF_ok (tabC_ok (all_cons tree2_ok (all_cons known7_ok all_nil))) (all_cons res1_3 (all_cons res1_11 all_nil)), fun ρ => lpC_ok (all_cons cuC0_ok (all_cons cuC1_ok (all_cons cuC2_ok (all_cons cuC3_ok (all_cons cuC4_ok (all_cons cuC5_ok (all_cons cuC6_ok (all_cons cuC7_ok all_nil)))))))) ⟩
def treeK : List K1 := List.replicate 31 (.int .i64)
theorem treeK_ok : kindsT Pr 10 27 = some treeK := by kernel_rfl
/-- the root's key out. -/
def zS : Sub := ⟨((List.range 23).map fun i => .var i) ++ [.lit 0], [], [], [], .ix⟩
def rowZ : L := (L.cat (resL 3) (resL 11)).sub' zS
def cntB (i : Nat) : B := .eq (cuL i (.lit 0) rowZ) (.lit 1)
def onB (i : Nat) : B := orB (.and (zB (.var (2 * i))) (.not (.and (nB (.var (2 * i + 1))) (.not (.and (nB (.var (2 * i + 1))) (cntB i)))))) (.and (nB (.var (2 * i))) (cntB i))
def isTr : B := hideB (treeP 0)
def trRules : List Rule := ⟨[], ltLen rowZ⟩ :: (List.range 8).map fun i => ⟨[(isTr, true)], hidB (onB i)⟩
theorem tr_chk : lawChk trRules [] (resOk (exec Pr cfTR 200 12 3 (patArgs Pr [(27, treeK), (3, intK)] cn0))) = true := by kernel_rfl
theorem zS_nix : zS.nix := Sub.noix_ok (by kernel_rfl)
theorem rowZ_den (ρ : Env) : rowZ.den ρ = resM 3 (tr31 (ρ.sub zS)) ++ resM 11 (tr31 (ρ.sub zS)) := by
  unfold rowZ
  rw [L.sub_den zS_nix]
  show (resL 3).den (ρ.sub zS) ++ (resL 11).den (ρ.sub zS) = _
  rw [resL_den _ 3 (by decide), resL_den _ 11 (by decide)]
theorem zS_e (ρ : Env) {i : Nat} (h : i < 23) : (ρ.sub zS).e i = ρ.e i := by
  rw [envE (s := zS) (i := i) (a := .var i) (by
    show (((List.range 23).map fun i => E.var i) ++ [.lit 0])[i]? = _
    rw [List.getElem?_append_left (by simpa using h), List.getElem?_map, List.getElem?_range h]; rfl)]
  rfl
theorem rowZ_len (ρ : Env) : (rowZ.den ρ).length ≤ 32 := by
  rw [rowZ_den, List.length_append]
  have h1 := resK_len 4 3 (tr31 (ρ.sub zS))
  have h2 := resK_len 4 11 (tr31 (ρ.sub zS))
  have e1 : (resM 3 (tr31 (ρ.sub zS))).length = (resK 4 3 (tr31 (ρ.sub zS))).length := rfl
  have e2 : (resM 11 (tr31 (ρ.sub zS))).length = (resK 4 11 (tr31 (ρ.sub zS))).length := rfl
  omega
theorem cnt_ok {ρ : Env} {i : Nat} (hi : i < 8) (h : ρ.e (2 * i + 1) ≠ 0) : (cntB i).den ρ = true := by
  have hl := rowZ_len ρ
  have hs : (tr31 (ρ.sub zS)).getD (2 * i + 1) 0 ≠ 0 := by rw [tr31_at _ (by omega), zS_e _ (by omega)]; exact h
  have hc := cn_root hi hs
  show eqb ((cuL i (.lit 0) rowZ).den ρ) 1 = true
  rw [cuL_den]
  show eqb (IntKind.i64.wrap (cntU i 0 (rowZ.den ρ))) 1 = true
  rw [cntU_P i _ 0 (Int.le_refl _) (by omega), rowZ_den, hc]; rfl
theorem leaf_seal {ρ : Env} (h : isTr.den ρ = true) {i : Nat} (hi : i < 8) : (ρ.e (2 * i) = 0 ∧ ρ.e (2 * i + 1) = 0) ∨ (ρ.e (2 * i) ≠ 0 ∧ ρ.e (2 * i + 1) ≠ 0) := by
  unfold isTr at h
  rw [hideB_den] at h
  unfold treeP at h
  rw [andB_den] at h
  have := h (hidB (leafB (.var (0 + 2 * i)) (.var (0 + (2 * i + 1))))) (List.mem_append_left _ (List.mem_map.2 ⟨i, List.mem_range.2 hi, rfl⟩))
  rw [hidB_den, leafB_den, Nat.zero_add, Nat.zero_add, keyB_den, keyB_den, isB_i, isB_i] at this
  simp only [Bool.or_eq_true, Bool.and_eq_true, beq_iff_eq] at this
  rcases this with h1 | ⟨h1, h2⟩
  · exact .inl h1
  · have nz : ∀ y : Int, isM y = 1 → y ≠ 0 := fun y hy h0 => by rw [h0] at hy; cases hy
    exact .inr ⟨nz _ h1, nz _ h2⟩
theorem on_ok {ρ : Env} (h : isTr.den ρ = true) {i : Nat} (hi : i < 8) : (hidB (onB i)).den ρ = true := by
  rw [hidB_den]
  unfold onB nB
  rw [orB_den]
  simp only [B.den, keyB_den]
  rcases leaf_seal h hi with ⟨h1, h2⟩ | ⟨h1, h2⟩
  · simp [h1, h2]
  · have := cnt_ok (ρ := ρ) hi h2
    simp [this]
theorem trRules_ok (ρ : Env) : ∀ r ∈ trRules, r.Ok ρ := by
  refine all_cons (fun hs => ?_) (fun r hr => ?_)
  · have := rowZ_len ρ
    show ltb (((rowZ.den ρ).length : Nat) : Int) 1073741824 = true
    exact ltT (by omega)
  · obtain ⟨i, hi, rfl⟩ := List.mem_map.1 hr
    exact fun hs => on_ok (hs (isTr, true) (by simp)) (List.mem_range.1 hi)
theorem TreeRoot_by {xs : List Value} {W : World} (hA : ArgsRd Pr W [(27, treeK), (3, intK)] xs) : Calls Pr 3 xs.toArray W (fun e W' => e = .returned (.bool true) ∧ Below W.heap.size W W') :=
  law_by hm cfTR_ok (fuel := 200) (depth := 12) _ hA trRules (fun ρ h => trRules_ok ρ) tr_chk
end Go.Proofs.Ytlghaoohfklpnaa.E
