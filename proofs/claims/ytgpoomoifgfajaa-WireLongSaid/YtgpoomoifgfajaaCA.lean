/- Products and powers round a prime: contracts. -/
import Derived.Test.YtgpoomoifgfajaaProg
import Derived.Test.YtgpoomoifgfajaaFD
import Derived.KernelRfl
namespace Go.Proofs.Ytgpoomoifgfajaa.E
open Go Go.RowKit
set_option maxRecDepth 100000
set_option linter.unusedVariables false
noncomputable abbrev Pr : Program := Try.prog
theorem hm : Pr.follows .mixedOrders = true := by kernel_rfl
def ival (i : Nat) : V := .int .i64 (.var i)
def cf0 : Cf := ⟨tabC [], lpC [], noMg⟩
theorem cf0_ok : CfOk Pr cf0 := cfOk_mk all_nil all_nil
def mulR (a b : E) : E := .get (.app 1 (.cons a (.cons b .nil)) .nil) (.lit 0)
def mulC (f : FuncId) : Con := ⟨f, [ival 0, ival 1], .leaf (.int .i64 (mulR (.var 0) (.var 1)), [])⟩
def mulT : T (V × List B) := .br (.lt (.var 0) (.lit 0)) (.leaf (.int .i64 (.lit 0), [])) (.br (.lt (.var 0) (.lit 2147483579)) (.br (.lt (.var 1) (.lit 0)) (.leaf (.int .i64 (.lit 0), [])) (.br (.lt (.var 1) (.lit 2147483579)) (.leaf (.int .i64 (.bin .rem .i64 (.bin .mul .i64 (.var 0) (.var 1)) (.lit 2147483579)), [])) (.leaf (.int .i64 (.lit 0), [])))) (.leaf (.int .i64 (.lit 0), [])))
theorem blt_eq (x y : Nat) : Nat.blt x y = decide (x < y) := by rw [Bool.eq_iff_iff]; simp [Nat.blt]; try omega
theorem mulM_lo {a b : Int} (h : a < 0 ∨ b < 0) : mulM a b = 0 := by
  unfold mulM
  split
  · rename_i x y; simp at h; omega
  · rfl
theorem mulM_hi {a b : Int} (h : 2147483579 ≤ a ∨ 2147483579 ≤ b) : mulM a b = 0 := by
  unfold mulM
  split
  · rename_i x y
    have : (Nat.blt x 2147483579 && Nat.blt y 2147483579) = false := by
      rw [blt_eq, blt_eq, Bool.and_eq_false_iff]
      simp only [Int.ofNat_eq_natCast] at h
      simp only [decide_eq_false_iff_not]
      omega
    rw [this]; rfl
  · rfl
theorem mulM_in {a b : Int} (h1 : 0 ≤ a) (h2 : a < 2147483579) (h3 : 0 ≤ b) (h4 : b < 2147483579) : mulM a b = binI .rem .i64 (binI .mul .i64 a b) 2147483579 := by
  obtain ⟨x, rfl⟩ : ∃ x : Nat, a = x := ⟨a.toNat, by omega⟩
  obtain ⟨y, rfl⟩ : ∃ y : Nat, b = y := ⟨b.toNat, by omega⟩
  have e1 : (Nat.blt x 2147483579 && Nat.blt y 2147483579) = true := by simp [Nat.blt]; omega
  have hxy : x * y ≤ 2147483578 * 2147483578 := Nat.mul_le_mul (by omega) (by omega)
  have e2 : IntKind.i64.wrap ((x : Int) * y) = ((x * y : Nat) : Int) := by
    rw [← Int.natCast_mul]
    refine wrap_id _ _ ?_ ?_
    · show (-9223372036854775808 : Int) ≤ _; omega
    · show _ ≤ (9223372036854775807 : Int); omega
  show (bif Nat.blt x 2147483579 && Nat.blt y 2147483579 then Int.ofNat (x * y % 2147483579) else 0) = _
  rw [e1]
  simp only [binI, e2, cond_true]
  rfl
theorem mulM_rg (a b : Int) : 0 ≤ mulM a b ∧ mulM a b < 2147483579 := by
  unfold mulM
  split
  · rename_i x y
    cases Nat.blt x 2147483579 && Nat.blt y 2147483579 with
    | true => simp only [cond_true, Int.ofNat_eq_natCast]; omega
    | false => simp only [cond_false]; omega
  · omega
theorem wrap_lt {x : Int} (h1 : 0 ≤ x) (h2 : x < 2147483579) : IntKind.i64.wrap x = x := wrap_id _ _ (by show (-9223372036854775808 : Int) ≤ _; omega) (by show _ ≤ (9223372036854775807 : Int); omega)
theorem mulR_den (ρ : Env) (a b : E) : (mulR a b).den ρ = mulM (a.den ρ) (b.den ρ) := by
  show IntKind.i64.wrap (mulM (a.den ρ) (b.den ρ)) = _
  exact wrap_lt (mulM_rg _ _).1 (mulM_rg _ _).2
theorem mulC_of {f : FuncId} (h : shutT (exec Pr cf0 100 10 f [ival 0, ival 1]) = mulT) : ConOk Pr (mulC f) := by
  refine Con.alt (Con.ofExec hm cf0_ok rfl h) fun ρ r' bs' hp hb => ?_
  cases hp
  have key : ∀ e : E, e.den ρ = mulM (ρ.e 0) (ρ.e 1) → V.imp ρ (.int .i64 e) (.int .i64 (mulR (.var 0) (.var 1))) := fun e he => V.imp.int (by rw [he, mulR_den]; rfl)
  simp only [mulT, T.pick, B.den, E.den]
  cases h1 : ltb (ρ.e 0) 0 with
  | true => exact ⟨_, _, rfl, hb, key _ (by rw [mulM_lo (.inl (ltb_ok h1))]; rfl)⟩
  | false =>
    cases h2 : ltb (ρ.e 0) 2147483579 with
    | false => exact ⟨_, _, rfl, hb, key _ (by rw [mulM_hi (.inl (ltb_no h2))]; rfl)⟩
    | true =>
      cases h3 : ltb (ρ.e 1) 0 with
      | true => exact ⟨_, _, rfl, hb, key _ (by rw [mulM_lo (.inr (ltb_ok h3))]; rfl)⟩
      | false =>
        cases h4 : ltb (ρ.e 1) 2147483579 with
        | false => exact ⟨_, _, rfl, hb, key _ (by rw [mulM_hi (.inr (ltb_no h4))]; rfl)⟩
        | true => exact ⟨_, _, rfl, hb, key _ (by rw [mulM_in (ltb_no h1) (ltb_ok h2) (ltb_no h3) (ltb_ok h4)]; rfl)⟩
theorem mul1_ok : ConOk Pr (mulC 141) := mulC_of (by kernel_rfl)
theorem mul2_ok : ConOk Pr (mulC 147) := mulC_of (by kernel_rfl)
/-- a loop's rounds. -/
def powH : LHead := ⟨[(0, ival 0), (1, ival 1), (5, ival 2)], 0, [], []⟩
def powE3 (b e n : E) : E := .get (.app 3 (.cons b (.cons e (.cons n .nil))) .nil) (.lit 0)
def powRes : T LRes := .leaf ⟨.exit 0, [(5, .int .i64 (powE3 (.var 0) (.var 1) (.var 2)))], 0, [], [.not (.lt (.var 1) (.lit 0)), .not (.lt (.lit 1073741789) (.var 1)), .not (.lt (.var 2) (.lit 0)), .lt (.var 2) (.lit 2147483579)]⟩
def powT : T LEnd := .br (.lt (.lit 0) (.var 1)) (.br (.eq (.bin .and .i64 (.var 1) (.lit 1)) (.lit 1)) (.leaf (.go ⟨[mulR (.var 0) (.var 0), .bin .shr .i64 (.var 1) (.lit 1), mulR (.var 2) (.var 0)], [], [], [], .ix⟩ [])) (.leaf (.go ⟨[mulR (.var 0) (.var 0), .bin .shr .i64 (.var 1) (.lit 1), .var 2], [], [], [], .ix⟩ []))) (.leaf (.out ⟨.exit 0, [(5, .int .i64 (.var 2))], 0, [], []⟩))
theorem and1 (x : Nat) (h : x < 4611686018427387904) : binI .and .i64 x 1 = ((x % 2 : Nat) : Int) := by
  simp only [binI]
  have : (BitVec.ofInt IntKind.i64.bits (x : Int) &&& BitVec.ofInt IntKind.i64.bits 1).toNat = x % 2 := by
    show (BitVec.ofInt 64 (x : Int) &&& BitVec.ofInt 64 1).toNat = x % 2
    rw [BitVec.ofInt_natCast, BitVec.toNat_and, BitVec.toNat_ofNat]
    show (x % 2 ^ 64) &&& 1 = x % 2
    rw [Nat.and_one_is_mod]
    omega
  rw [this]
  refine wrap_id _ _ ?_ ?_
  · show (-9223372036854775808 : Int) ≤ _; omega
  · show _ ≤ (9223372036854775807 : Int); omega
theorem shr1 (x : Nat) : binI .shr .i64 x 1 = ((x / 2 : Nat) : Int) := by
  simp only [binI]
  rw [Int.fdiv_eq_ediv_of_nonneg _ (by decide)]
  simp [IntKind.bits]
theorem powL_rg : ∀ (k : Nat) (b : Int) (e : Nat) (n : Int), 0 ≤ n → n < 2147483579 → 0 ≤ powL k b e n ∧ powL k b e n < 2147483579
  | 0, _, _, n, h1, h2 => ⟨h1, h2⟩
  | k + 1, b, e, n, h1, h2 => by
    unfold powL
    cases Nat.beq e 0 with
    | true => exact ⟨h1, h2⟩
    | false =>
      rw [cond_false]
      cases Nat.beq (e % 2) 1 with
      | true => exact powL_rg k _ _ _ (mulM_rg _ _).1 (mulM_rg _ _).2
      | false => exact powL_rg k _ _ _ h1 h2
/-- from enough rounds on it is one number. -/
theorem powL_more : ∀ (k : Nat) (b : Int) (x : Nat) (n : Int), x < 2 ^ k → powL (k + 1) b x n = powL k b x n
  | 0, b, x, n, h => by obtain rfl : x = 0 := by omega
                        rfl
  | k + 1, b, x, n, h => by
    conv => lhs; unfold powL
    conv => rhs; unfold powL
    cases Nat.beq x 0 with
    | true => rfl
    | false => rw [cond_false, cond_false]; exact powL_more k _ _ _ (by omega)
theorem powE3_den (ρ : Env) (b e n : E) (h1 : 0 ≤ n.den ρ) (h2 : n.den ρ < 2147483579) : (powE3 b e n).den ρ = powL 62 (b.den ρ) (e.den ρ).toNat (n.den ρ) := by
  show IntKind.i64.wrap (powL 62 (b.den ρ) (e.den ρ).toNat (n.den ρ)) = _
  have := powL_rg 62 (b.den ρ) (e.den ρ).toNat (n.den ρ) h1 h2
  exact wrap_lt this.1 this.2
theorem powH_ok {f m : FuncId} (hmul : ConOk Pr (mulC m)) (hr : roundH Pr ⟨tabC [mulC m], lpC [], noMg⟩ 100 10 f 4 powH [] [5] [] = powT) : HeadOk Pr f 4 powH (fun ρ => 0 ≤ ρ.e 1 ∧ ρ.e 1 ≤ 1073741789 ∧ 0 ≤ ρ.e 2 ∧ ρ.e 2 < 2147483579) powRes := by
  refine HeadOk.of hm (cfOk_mk (all_cons hmul all_nil) all_nil) hr _ (fun ρ => (ρ.e 1).toNat) powRes (fun ρ _ x hx => by cases hx) fun ρ r hI hp => ?_
  cases hp
  obtain ⟨h1, h2, h3, h4⟩ := hI
  obtain ⟨x, hx⟩ : ∃ x : Nat, ρ.e 1 = x := ⟨(ρ.e 1).toNat, by omega⟩
  have hxl : x < 4611686018427387904 := by omega
  have step : ∀ (k : Nat) (b : Int) (n : Int), x ≠ 0 → x < 2 ^ (k + 1) → powL (k + 1) b x n = powL (k + 1) (mulM b b) (x / 2) (bif Nat.beq (x % 2) 1 then mulM n b else n) := by
    intro k b n hx0 hxk
    have e0 : Nat.beq x 0 = false := by cases x with | zero => exact absurd rfl hx0 | succ _ => rfl
    rw [powL_more k (mulM b b) (x / 2) _ (by omega)]
    conv => lhs; unfold powL
    rw [e0]; rfl
  simp only [powT, T.pick, B.den, E.den, hx]
  cases hpos : ltb 0 (x : Int) with
  | false =>
    have hx0 : x = 0 := by have := ltb_no hpos; omega
    refine ⟨_, rfl, fun b hb => (by cases hb), LRes.mk_imp ⟨rfl, V.imp.int ?_, trivial⟩ trivial, by simp⟩
    rw [powE3_den ρ _ _ (.var 2) h3 h4]
    show ρ.e 2 = powL 62 (ρ.e 0) (ρ.e 1).toNat (ρ.e 2)
    rw [hx, hx0]; rfl
  | true =>
    have hx0 : x ≠ 0 := by have := ltb_ok hpos; omega
    have hdiv : (ρ.e 1).toNat = x := by omega
    rw [cond_true, and1 x hxl]
    by_cases hodd : x % 2 = 1
    · rw [hodd]
      refine ⟨_, rfl, fun b hb => (by cases hb), fun hs => ?_⟩
      have e1 : (ρ.sub ⟨[mulR (.var 0) (.var 0), .bin .shr .i64 (.var 1) (.lit 1), mulR (.var 2) (.var 0)], [], [], [], .ix⟩).e 1 = ((x / 2 : Nat) : Int) := by
        show binI .shr .i64 (ρ.e 1) 1 = _; rw [hx, shr1]
      have e2 : (ρ.sub ⟨[mulR (.var 0) (.var 0), .bin .shr .i64 (.var 1) (.lit 1), mulR (.var 2) (.var 0)], [], [], [], .ix⟩).e 2 = mulM (ρ.e 2) (ρ.e 0) := mulR_den ρ _ _
      have e0 : (ρ.sub ⟨[mulR (.var 0) (.var 0), .bin .shr .i64 (.var 1) (.lit 1), mulR (.var 2) (.var 0)], [], [], [], .ix⟩).e 0 = mulM (ρ.e 0) (ρ.e 0) := mulR_den ρ _ _
      have hmr := mulM_rg (ρ.e 2) (ρ.e 0)
      refine ⟨by rw [e1, e2]; exact ⟨by omega, by omega, hmr.1, hmr.2⟩, by rw [e1]; omega, _, rfl, LRes.mk_imp ⟨rfl, V.imp.int ?_, trivial⟩ trivial⟩
      rw [E.sub_den hs, powE3_den _ _ _ _ (by show 0 ≤ Env.e _ 2; rw [e2]; exact hmr.1) (by show Env.e _ 2 < _; rw [e2]; exact hmr.2), powE3_den ρ _ _ (.var 2) h3 h4]
      show powL 62 (Env.e _ 0) (Env.e _ 1).toNat (Env.e _ 2) = powL 62 (ρ.e 0) (ρ.e 1).toNat (ρ.e 2)
      rw [e0, e1, e2, hdiv, Int.toNat_natCast, step 61 _ _ hx0 (by omega), hodd]; rfl
    · have hev : x % 2 = 0 := by omega
      rw [hev]
      refine ⟨_, rfl, fun b hb => (by cases hb), fun hs => ?_⟩
      have e1 : (ρ.sub ⟨[mulR (.var 0) (.var 0), .bin .shr .i64 (.var 1) (.lit 1), .var 2], [], [], [], .ix⟩).e 1 = ((x / 2 : Nat) : Int) := by
        show binI .shr .i64 (ρ.e 1) 1 = _; rw [hx, shr1]
      have e2 : (ρ.sub ⟨[mulR (.var 0) (.var 0), .bin .shr .i64 (.var 1) (.lit 1), .var 2], [], [], [], .ix⟩).e 2 = ρ.e 2 := rfl
      have e0 : (ρ.sub ⟨[mulR (.var 0) (.var 0), .bin .shr .i64 (.var 1) (.lit 1), .var 2], [], [], [], .ix⟩).e 0 = mulM (ρ.e 0) (ρ.e 0) := mulR_den ρ _ _
      refine ⟨by rw [e1, e2]; exact ⟨by omega, by omega, h3, h4⟩, by rw [e1]; omega, _, rfl, LRes.mk_imp ⟨rfl, V.imp.int ?_, trivial⟩ trivial⟩
      rw [E.sub_den hs, powE3_den _ _ _ _ (by show 0 ≤ Env.e _ 2; rw [e2]; exact h3) (by show Env.e _ 2 < _; rw [e2]; exact h4), powE3_den ρ _ _ (.var 2) h3 h4]
      show powL 62 (Env.e _ 0) (Env.e _ 1).toNat (Env.e _ 2) = powL 62 (ρ.e 0) (ρ.e 1).toNat (ρ.e 2)
      rw [e0, e1, e2, hdiv, Int.toNat_natCast, step 61 _ _ hx0 (by omega), hev]; rfl
def powDs : List Nat := [1, 20, 19, 0, 29, 28, 27, 5, 26, 25, 24, 23, 22, 21, 18, 17]
def powLC (f : FuncId) : LCon := ⟨f, 4, powDs, powH.at [], 0, powH.obs [], powRes⟩
theorem powLC_of {f m : FuncId} (hmul : ConOk Pr (mulC m)) (hr : roundH Pr ⟨tabC [mulC m], lpC [], noMg⟩ 100 10 f 4 powH [] [5] [] = powT) (hds : dsOk Pr f 4 powDs = true) : LConOk Pr (powLC f) :=
  LConOk.of (powH_ok hmul hr) [] hds rfl rfl fun ρ r hp hok => by
    cases hp
    have g1 := hok _ (List.mem_cons_self ..)
    have g2 := hok _ (List.mem_cons_of_mem _ (List.mem_cons_self ..))
    have g3 := hok _ (List.mem_cons_of_mem _ (List.mem_cons_of_mem _ (List.mem_cons_self ..)))
    have g4 := hok _ (List.mem_cons_of_mem _ (List.mem_cons_of_mem _ (List.mem_cons_of_mem _ (List.mem_cons_self ..))))
    simp only [B.den, E.den, Bool.not_eq_true'] at g1 g2 g3 g4
    exact ⟨ltb_no g1, ltb_no g2, ltb_no g3, ltb_ok g4⟩
theorem powL1_ok : LConOk Pr (powLC 124) := powLC_of mul1_ok (by kernel_rfl) (by kernel_rfl)
theorem powL2_ok : LConOk Pr (powLC 129) := powLC_of mul2_ok (by kernel_rfl) (by kernel_rfl)
/-- a power. -/
def powE (a b : E) : E := .get (.app 2 (.cons a (.cons b .nil)) .nil) (.lit 0)
def powC (f : FuncId) : Con := ⟨f, [ival 0, ival 1], .leaf (.int .i64 (powE (.var 0) (.var 1)), [])⟩
def powFT : T (V × List B) := .br (.lt (.var 0) (.lit 0)) (.leaf (.int .i64 (.lit 0), [])) (.br (.lt (.var 0) (.lit 2147483579)) (.br (.lt (.var 1) (.lit 0)) (.leaf (.int .i64 (.lit 0), [])) (.br (.lt (.lit 1073741789) (.var 1)) (.leaf (.int .i64 (.lit 0), [])) (.leaf (.int .i64 (powE3 (.var 0) (.var 1) (.lit 1)), [])))) (.leaf (.int .i64 (.lit 0), [])))
theorem powM_lo {a b : Int} (h : a < 0 ∨ b < 0) : powM a b = 0 := by
  unfold powM
  split
  · rename_i x y; simp at h; omega
  · rfl
theorem powM_hi {a b : Int} (h : 2147483579 ≤ a ∨ 1073741789 < b) : powM a b = 0 := by
  unfold powM
  split
  · rename_i x y
    have : (Nat.blt x 2147483579 && Nat.ble y 1073741789) = false := by
      rw [blt_eq, Bool.and_eq_false_iff]
      simp only [Int.ofNat_eq_natCast] at h
      rcases h with h | h
      · left; simp only [decide_eq_false_iff_not]; omega
      · right
        cases hc : Nat.ble y 1073741789 with
        | false => rfl
        | true => have := Nat.le_of_ble_eq_true hc; omega
    rw [this]; rfl
  · rfl
theorem powM_in {a b : Int} (h1 : 0 ≤ a) (h2 : a < 2147483579) (h3 : 0 ≤ b) (h4 : b ≤ 1073741789) : powM a b = powL 62 a b.toNat 1 := by
  obtain ⟨x, rfl⟩ : ∃ x : Nat, a = x := ⟨a.toNat, by omega⟩
  obtain ⟨y, rfl⟩ : ∃ y : Nat, b = y := ⟨b.toNat, by omega⟩
  have e1 : (Nat.blt x 2147483579 && Nat.ble y 1073741789) = true := by
    rw [blt_eq, Nat.ble_eq_true_of_le (by omega : y ≤ 1073741789)]; simp; omega
  show (bif Nat.blt x 2147483579 && Nat.ble y 1073741789 then powL 62 (Int.ofNat x) y 1 else 0) = _
  rw [e1]; rfl
theorem powM_rg (a b : Int) : 0 ≤ powM a b ∧ powM a b < 2147483579 := by
  unfold powM
  split
  · rename_i x y
    cases Nat.blt x 2147483579 && Nat.ble y 1073741789 with
    | true => rw [cond_true]; exact powL_rg 62 _ _ 1 (by omega) (by omega)
    | false => rw [cond_false]; omega
  · omega
theorem powE_den (ρ : Env) (a b : E) : (powE a b).den ρ = powM (a.den ρ) (b.den ρ) := by
  show IntKind.i64.wrap (powM (a.den ρ) (b.den ρ)) = _
  exact wrap_lt (powM_rg _ _).1 (powM_rg _ _).2
theorem powC_of {f m : FuncId} (hmul : ConOk Pr (mulC m)) (hl : LConOk Pr (powLC f)) (h : shutT (exec Pr ⟨tabC [mulC m], lpC [powLC f], noMg⟩ 100 10 f [ival 0, ival 1]) = powFT) : ConOk Pr (powC f) := by
  refine Con.alt (Con.ofExec hm (cfOk_mk (all_cons hmul all_nil) (all_cons hl all_nil)) rfl h) fun ρ r' bs' hp hb => ?_
  cases hp
  have key : ∀ e : E, e.den ρ = powM (ρ.e 0) (ρ.e 1) → V.imp ρ (.int .i64 e) (.int .i64 (powE (.var 0) (.var 1))) := fun e he => V.imp.int (by rw [he, powE_den]; rfl)
  simp only [powFT, T.pick, B.den, E.den]
  cases h1 : ltb (ρ.e 0) 0 with
  | true => exact ⟨_, _, rfl, hb, key _ (by rw [powM_lo (.inl (ltb_ok h1))]; rfl)⟩
  | false =>
    cases h2 : ltb (ρ.e 0) 2147483579 with
    | false => exact ⟨_, _, rfl, hb, key _ (by rw [powM_hi (.inl (ltb_no h2))]; rfl)⟩
    | true =>
      cases h3 : ltb (ρ.e 1) 0 with
      | true => exact ⟨_, _, rfl, hb, key _ (by rw [powM_lo (.inr (ltb_ok h3))]; rfl)⟩
      | false =>
        cases h4 : ltb 1073741789 (ρ.e 1) with
        | true => exact ⟨_, _, rfl, hb, key _ (by rw [powM_hi (.inr (ltb_ok h4))]; rfl)⟩
        | false => exact ⟨_, _, rfl, hb, key _ (by rw [powM_in (ltb_no h1) (ltb_ok h2) (ltb_no h3) (ltb_no h4), powE3_den ρ _ _ (.lit 1) (by show (0:Int) ≤ 1; decide) (by show (1:Int) < 2147483579; decide)]; rfl)⟩
/-- is it a public key? -/
def isB (a : E) : B := .eq (.get (.app 4 (.cons a .nil) .nil) (.lit 0)) (.lit 1)
def isC (f : FuncId) : Con := ⟨f, [ival 0], .leaf (.bool (isB (.var 0)), [])⟩
def isT_ : T (V × List B) := .br (.lt (.lit 1) (.var 0)) (.br (.lt (.var 0) (.lit 2147483579)) (.leaf (.bool (.eq (powE (.var 0) (.lit 1073741789)) (.lit 1)), [])) (.leaf (.bool (.lit false), []))) (.leaf (.bool (.lit false), []))
theorem isM_eq (y : Int) : isM y = b2i (ltb 1 y && ltb y 2147483579 && eqb (powM y 1073741789) 1) := by
  cases y with
  | negSucc n => rfl
  | ofNat n =>
    simp only [isM]
    generalize powM (Int.ofNat n) 1073741789 = z
    cases z <;> rfl
theorem isB_den (ρ : Env) (a : E) : (isB a).den ρ = eqb (isM (a.den ρ)) 1 := by
  show eqb (IntKind.i64.wrap (isM (a.den ρ))) 1 = _
  congr 1
  rw [isM_eq]
  cases (ltb 1 (a.den ρ) && ltb (a.den ρ) 2147483579 && eqb (powM (a.den ρ) 1073741789) 1) <;> rfl
theorem isC_of {f p : FuncId} (hp : ConOk Pr (powC p)) (h : shutT (exec Pr ⟨tabC [powC p], lpC [], noMg⟩ 100 10 f [ival 0]) = isT_) : ConOk Pr (isC f) := by
  refine Con.alt (Con.ofExec hm (cfOk_mk (all_cons hp all_nil) all_nil) rfl h) fun ρ r' bs' hp hb => ?_
  cases hp
  have key : ∀ b : B, b.den ρ = (ltb 1 (ρ.e 0) && ltb (ρ.e 0) 2147483579 && eqb (powM (ρ.e 0) 1073741789) 1) → V.imp ρ (.bool b) (.bool (isB (.var 0))) := fun b he => V.imp.bool (by
    rw [he, isB_den]
    show _ = eqb (isM (ρ.e 0)) 1
    rw [isM_eq]
    cases (ltb 1 (ρ.e 0) && ltb (ρ.e 0) 2147483579 && eqb (powM (ρ.e 0) 1073741789) 1) <;> rfl)
  simp only [isT_, T.pick, B.den, E.den]
  cases h1 : ltb 1 (ρ.e 0) with
  | false => exact ⟨_, _, rfl, hb, key _ (by rw [h1]; rfl)⟩
  | true =>
    cases h2 : ltb (ρ.e 0) 2147483579 with
    | false => exact ⟨_, _, rfl, hb, key _ (by rw [h1, h2]; rfl)⟩
    | true => exact ⟨_, _, rfl, hb, key _ (by rw [h1, h2, B.den, powE_den]; rfl)⟩
theorem powC1_ok : ConOk Pr (powC 124) := powC_of mul1_ok powL1_ok (by kernel_rfl)
theorem powC2_ok : ConOk Pr (powC 129) := powC_of mul2_ok powL2_ok (by kernel_rfl)
theorem isC1_ok : ConOk Pr (isC 156) := isC_of powC1_ok (by kernel_rfl)
theorem isC2_ok : ConOk Pr (isC 110) := isC_of powC2_ok (by kernel_rfl)
end Go.Proofs.Ytgpoomoifgfajaa.E
/- Numbers as bytes: contracts. -/
namespace Go.Proofs.Ytgpoomoifgfajaa.E
open Go Go.RowKit
set_option maxRecDepth 100000
set_option linter.unusedVariables false
/-- a number as bytes. -/
def numL (a : E) : L := .app 10 (.cons a .nil) .nil
def numC (f : FuncId) : Con := ⟨f, [ival 0], .leaf (.fs 1 (.ints .u8 (numL (.var 0))), [])⟩
def numX : L := .cons (.conv .u8 (.bin .shr .i64 (.var 0) (.lit 56))) (.cons (.conv .u8 (.bin .shr .i64 (.var 0) (.lit 48))) (.cons (.conv .u8 (.bin .shr .i64 (.var 0) (.lit 40))) (.cons (.conv .u8 (.bin .shr .i64 (.var 0) (.lit 32))) (.cons (.conv .u8 (.bin .shr .i64 (.var 0) (.lit 24))) (.cons (.conv .u8 (.bin .shr .i64 (.var 0) (.lit 16))) (.cons (.conv .u8 (.bin .shr .i64 (.var 0) (.lit 8))) (.cons (.conv .u8 (.bin .shr .i64 (.var 0) (.lit 0))) .nil)))))))
theorem numC_of {f : FuncId} (h : shutT (exec Pr cf0 100 10 f [ival 0]) = .leaf (.fs 1 (.ints .u8 numX), [])) : ConOk Pr (numC f) :=
  Con.alt (Con.ofExec hm cf0_ok rfl h) fun ρ r' bs' hp hb => by cases hp; exact ⟨_, _, rfl, hb, V.imp.fsInts rfl⟩
theorem num1_ok : ConOk Pr (numC 96) := numC_of (by kernel_rfl)
theorem num2_ok : ConOk Pr (numC 32) := numC_of (by kernel_rfl)
theorem numL_den (ρ : Env) (a : E) : (numL a).den ρ = numB (a.den ρ) := rfl
theorem numB_len (n : Int) : (numB n).length = 8 := rfl
theorem wrap_wrap (k : IntKind) (x : Int) : k.wrap (k.wrap x) = k.wrap x := wrap_id k _ (wrap_rg k x).1 (wrap_rg k x).2
theorem numB_wrap (n : Int) : (numB n).map IntKind.u8.wrap = numB n := by
  unfold numB; rw [List.map_map]; exact List.map_congr_left fun x _ => wrap_wrap .u8 x
theorem numsM_wrap (l : List Int) : (numsM l).map IntKind.u8.wrap = numsM l := by
  unfold numsM
  induction l with
  | nil => rfl
  | cons a l ih => rw [List.flatMap_cons, List.map_append, numB_wrap, ih]
theorem opsM_wrap (l : List (List Int)) : (opsM l).map IntKind.u8.wrap = opsM l := by
  unfold opsM
  induction l with
  | nil => rfl
  | cons a l ih => rw [List.flatMap_cons, List.map_append, numsM_wrap, ih]
def numsL (a : L) : L := .app 15 a .nil
theorem numsL_den (ρ : Env) (a : L) : (numsL a).den ρ = numsM (a.den ρ) := by
  show (numsM (a.den ρ)).map IntKind.u8.wrap = _
  exact numsM_wrap _
def numsC (f : FuncId) : Con := ⟨f, [.fs 1 (.ints .i64 (.var 0))], .leaf (.fs 1 (.ints .u8 (numsL (.var 0))), [.lt (.len (.var 0)) (.lit 67108864)])⟩
/-- a row's numbers, one after the other, behind what there is. -/
def numsOks : List B := [.lt (.len (.cat (.var 1) (numL (.get (.var 0) (.var 0))))) (.lit 1073741824), .and (.not (.lt (.var 0) (.lit 0))) (.lt (.var 0) (.len (.var 0))), .and (.not (.lt (.var 0) (.lit 0))) (.lt (.var 0) (.len (.var 0)))]
def numsS : Sub := ⟨[.bin .add .i64 (.var 0) (.lit 1)], [.var 0, .cat (.var 1) (numL (.get (.var 0) (.var 0)))], [], [], .ix⟩
def numsT (slot x : Nat) (oks : List B) : T LEnd := .br (.lt (.var 0) (.len (.var 0))) (.leaf (.go numsS oks)) (.leaf (.out ⟨.exit x, rowFr slot 0 1 (.var 1), 1, rowOb 0 .u8 5 (.var 1), []⟩))
def numsI (ρ : Env) : Prop := 0 ≤ ρ.e 0 ∧ ρ.e 0 ≤ (ρ.l 0).length ∧ (ρ.l 0).length ≤ 67108864 ∧ (ρ.l 1).length + 8 * ((ρ.l 0).length - (ρ.e 0).toNat) ≤ 1073741000
def numsG : L := numsL (restL (.var 0) (.var 0))
def numsOkr : List B := [.eq (.var 0) (.lit 0), .eq (.len (.var 1)) (.lit 0), .lt (.len (.var 0)) (.lit 67108864)]
theorem numsHead {cf : Cf} (hcf : CfOk Pr cf) {f id slot x : Nat} {H : LHead} {oks : List B} (ho : ∀ b ∈ oks, b ∈ numsOks) (hr : roundH Pr cf 100 10 f id H [] [slot] [0] = numsT slot x oks) : HeadOk Pr f id H numsI (.leaf ⟨.exit x, rowFr slot 0 1 (.cat (.var 1) numsG), 1, rowOb 0 .u8 5 (.cat (.var 1) numsG), numsOkr⟩) := by
  refine HeadOk.flat hm hcf hr numsI numsG _ (fun ρ hI => ⟨hI.1, hI.2.1⟩) (fun ρ hI hlt => ?_) (fun ρ hI he => ?_)
  · obtain ⟨h1, h2, h3, h4⟩ := hI
    simp only [lenN, L.den] at hlt
    have e1 : (ρ.sub numsS).e 0 = ρ.e 0 + 1 := add1 h1 hlt (by omega)
    have e2 : (ρ.sub numsS).l 1 = ρ.l 1 ++ numB ((ρ.l 0).getD (ρ.e 0).toNat 0) := rfl
    have e3 : (ρ.sub numsS).l 0 = ρ.l 0 := rfl
    refine ⟨fun b hb => ?_, fun _ => ⟨⟨by rw [e1]; omega, by rw [e1, e3]; omega, by rw [e3]; exact h3, ?_⟩, e1, rfl, ?_⟩⟩
    · have := ho b hb
      simp only [numsOks, List.mem_cons, List.not_mem_nil, or_false] at this
      have q1 : (B.lt (.len (.cat (.var 1) (numL (.get (.var 0) (.var 0))))) (.lit 1073741824)).den ρ = true := by
        refine ltT ?_
        show (((ρ.l 1 ++ numB _).length : Nat) : Int) < 1073741824
        rw [List.length_append, numB_len]; omega
      have q2 : (B.and (.not (.lt (.var 0) (.lit 0))) (.lt (.var 0) (.len (.var 0)))).den ρ = true := by
        show (!ltb (ρ.e 0) 0 && ltb (ρ.e 0) ((ρ.l 0).length : Nat)) = true
        rw [ltF h1, ltT hlt]; rfl
      rcases this with rfl | rfl | rfl
      · exact q1
      · exact q2
      · exact q2
    · rw [e1, e2, e3, List.length_append, numB_len]; omega
    · rw [e2]
      unfold numsG
      rw [numsL_den, numsL_den, restL_den, restL_den]
      show (ρ.l 1 ++ numB _) ++ numsM ((ρ.l 0).drop ((ρ.sub numsS).e 0).toNat) = ρ.l 1 ++ numsM ((ρ.l 0).drop (ρ.e 0).toNat)
      rw [e1, drop_at (d := 0) h1 hlt]
      simp only [numsM, List.flatMap_cons, List.append_assoc]
  · unfold numsG
    rw [numsL_den, restL_den]
    show numsM ((ρ.l 0).drop (ρ.e 0).toNat) = []
    have : (ρ.e 0).toNat = (ρ.l 0).length := by
      have : ρ.e 0 = ((ρ.l 0).length : Nat) := he
      omega
    rw [this, List.drop_length]; rfl
/-- none yet. -/
def nums0 : Sub := ⟨[.lit 0], [.var 0, .nil], [], [], .ix⟩
theorem numsI0 (ρ : Env) (r : LRes) {x slot : Nat} (hp : (T.sub nums0 (.leaf ⟨.exit x, rowFr slot 0 1 (.cat (.var 1) numsG), 1, rowOb 0 .u8 5 (.cat (.var 1) numsG), numsOkr⟩)).pick ρ = some r) (hok : okOk ρ r.ok) : numsI (ρ.sub nums0) := by
  cases hp
  have := hok _ (List.mem_cons_of_mem _ (List.mem_cons_of_mem _ (List.mem_cons_self ..)))
  rw [B.sub_den (Sub.noix_ok rfl)] at this
  have : ((ρ.l 0).length : Int) < 67108864 := ltb_ok this
  refine ⟨Int.le_refl _, ?_, ?_, ?_⟩
  · show (0 : Int) ≤ ((ρ.l 0).length : Nat); omega
  · show (ρ.l 0).length ≤ _; omega
  · show 0 + 8 * ((ρ.l 0).length - (0 : Int).toNat) ≤ _; simp; omega
def nums1H : LHead := ⟨[(3, .sl 0 0 (.lit 0) (.len (.var 1)) 1 true), (6, .fs 1 (.ints .i64 (.var 0))), (7, .int .i64 (.len (.var 0))), (8, ival 0)], 0, [1], [(0, ⟨.ints .u8 (.var 1), true, 5⟩)]⟩
def nums1Ds : List Nat := [8, 16, 3, 15, 14, 13, 12, 5, 11, 10, 9]
noncomputable def cfN1 : Cf := ⟨tabC [numC 96], lpC [], noMg⟩
theorem cfN1_ok : CfOk Pr cfN1 := cfOk_mk (all_cons num1_ok all_nil) all_nil
def numsRes (slot x : Nat) : T LRes := .leaf ⟨.exit x, rowFr slot 0 1 (.cat (.var 1) numsG), 1, rowOb 0 .u8 5 (.cat (.var 1) numsG), numsOkr⟩
theorem nums1L_ok : LConOk Pr ⟨40, 3, nums1Ds, nilFr nums1H nums0 1, 0, [], T.sub nums0 (numsRes 3 0)⟩ :=
  LConOk.nil (ob0 := []) (numsHead cfN1_ok (oks := numsOks) (fun b h => h) (by kernel_rfl)) nums0 1 rfl (by kernel_rfl) rfl rfl fun ρ r hp hok => numsI0 ρ r hp hok
theorem nums1_ok : ConOk Pr (numsC 40) :=
  Con.ofExec hm (cf := ⟨tabC [numC 96], lpC [⟨40, 3, nums1Ds, nilFr nums1H nums0 1, 0, [], T.sub nums0 (numsRes 3 0)⟩], noMg⟩) (cfOk_mk (all_cons num1_ok all_nil) (all_cons nums1L_ok all_nil)) (fuel := 100) (depth := 10) rfl (by kernel_rfl)
end Go.Proofs.Ytgpoomoifgfajaa.E
/- Operations as bytes: contracts. -/
namespace Go.Proofs.Ytgpoomoifgfajaa.E
open Go Go.RowKit
set_option maxRecDepth 100000
set_option linter.unusedVariables false
def opsL (a : LL) : L := .app 16 .nil a
theorem opsL_den (ρ : Env) (a : LL) : (opsL a).den ρ = opsM (a.den ρ) := by
  show (opsM (a.den ρ)).map IntKind.u8.wrap = _
  exact opsM_wrap _
def opsA (i : Nat) : V := .fs 5 (.recs 5 (.cnt (.var i)) (tI .i64 5 (.var i)))
def opsC (f : FuncId) : Con := ⟨f, [opsA 0], .leaf (.fs 1 (.ints .u8 (opsL (.var 0))), [.lt (.cnt (.var 0)) (.lit 4611686018427387904), .lt (.len (opsL (.var 0))) (.lit 1073741824)])⟩
noncomputable def cfK : Cf := ⟨tabC [numC 96, numC 32], lpC [], noMg⟩
theorem cfK_ok : CfOk Pr cfK := cfOk_mk (all_cons num1_ok (all_cons num2_ok all_nil)) all_nil
def oprN (k : Nat) : L := numL (.get (.at (.var 0) (.var 0)) (.lit (.ofNat k)))
def oprX : L := .cat (oprN 0) (.cat (oprN 1) (.cat (oprN 2) (.cat (oprN 3) (oprN 4))))
def opsG : L := opsL (restLL (.var 0) (.var 0))
def opsS : Sub := ⟨[.bin .add .i64 (.var 0) (.lit 1)], [.nil, .cat (.var 1) oprX], [.var 0], [], .ix⟩
theorem oprX_den (ρ : Env) : oprX.den ρ = numsM ((List.range 5).map fun i => ((ρ.ll 0).getD (ρ.e 0).toNat []).getD i 0) := by
  simp [numsM, List.range_succ, List.flatMap_cons, oprN, numL_den, oprX, L.den, E.den, LL.den]
theorem numsM_len (l : List Int) : (numsM l).length = 8 * l.length := by
  unfold numsM
  induction l with
  | nil => rfl
  | cons a l ih => rw [List.flatMap_cons, List.length_append, ih, numB_len, List.length_cons]; omega
theorem opsM_len (l : List (List Int)) : (opsM l).length = 40 * l.length := by
  unfold opsM
  induction l with
  | nil => rfl
  | cons a l ih => rw [List.flatMap_cons, List.length_append, ih, numsM_len, List.length_map, List.length_range, List.length_cons]; omega
theorem opsG_step (ρ : Env) (h0 : 0 ≤ ρ.e 0) (h : ρ.e 0 < ((ρ.ll 0).length : Nat)) (e1 : (ρ.sub opsS).e 0 = ρ.e 0 + 1) : opsG.den ρ = oprX.den ρ ++ opsG.den (ρ.sub opsS) := by
  unfold opsG
  rw [opsL_den, opsL_den, restLL_den, restLL_den, oprX_den]
  show opsM ((ρ.ll 0).drop (ρ.e 0).toNat) = _ ++ opsM ((ρ.ll 0).drop ((ρ.sub opsS).e 0).toNat)
  rw [e1, drop_at (d := []) h0 h]
  simp only [opsM, List.flatMap_cons]
def opsIx : B := .and (.not (.lt (.var 0) (.lit 0))) (.lt (.var 0) (.cnt (.var 0)))
def opsOks : List B := opsIx :: [oprN 0, .cat (oprN 0) (oprN 1), .cat (oprN 0) (.cat (oprN 1) (oprN 2)), .cat (oprN 0) (.cat (oprN 1) (.cat (oprN 2) (oprN 3))), oprX].map fun X => .lt (.len (.cat (.var 1) X)) (.lit 1073741824)
theorem ops_oks {ρ : Env} (h : appI 0 1 (.cnt (.var 0)) opsG ρ) (hlt : ρ.e 0 < ((ρ.ll 0).length : Nat)) (e1 : (ρ.sub opsS).e 0 = ρ.e 0 + 1) {oks : List B} (ho : ∀ b ∈ oks, b ∈ opsOks) : okOk ρ oks := by
  intro b hb
  have h4 := h.2.2.2
  rw [opsG_step ρ h.1 hlt e1, oprX_den] at h4
  simp only [List.length_append, numsM_len, List.length_map, List.length_range] at h4
  rcases List.mem_cons.1 (ho b hb) with rfl | hb
  · exact ok_ix h.1 hlt
  · obtain ⟨X, hX, rfl⟩ := List.mem_map.1 hb
    refine ok_len (m := 1073741824) ?_
    simp only [List.mem_cons, List.not_mem_nil, or_false] at hX
    rcases hX with rfl | rfl | rfl | rfl | rfl <;> simp only [L.den, List.length_append, oprX, oprN, numL_den, numB_len] <;> omega
def ops1H : LHead := ⟨[(3, .sl 0 0 (.lit 0) (.len (.var 1)) 1 true), (8, opsA 0), (9, .int .i64 (.cnt (.var 0))), (10, ival 0)], 0, [7], [(0, ⟨.ints .u8 (.var 1), true, 5⟩)]⟩
def ops2H : LHead := ⟨[(0, opsA 0), (3, .sl 0 0 (.lit 0) (.len (.var 1)) 1 true), (4, ival 0)], 0, [7], [(0, ⟨.ints .u8 (.var 1), true, 5⟩)]⟩
def opsT (oks : List B) : T LEnd := .br (.lt (.var 0) (.cnt (.var 0))) (.leaf (.go opsS oks)) (.leaf (.out ⟨.exit 0, rowFr 3 0 1 (.var 1), 1, rowOb 0 .u8 5 (.var 1), []⟩))
theorem opsHead {f : FuncId} {H : LHead} {oks : List B} (hr : roundH Pr cfK 100 10 f 3 H [] [3] [0] = opsT oks) (ho : amongB opsOks oks = true) : HeadOk Pr f 3 H (appI 0 1 (.cnt (.var 0)) opsG) (appRes 3 0 1 0 1 .u8 5 opsG (appOk 0 1 (.cnt (.var 0)) opsG)) :=
  HeadOk.app hm cfK_ok hr opsG (fun _ => rfl) (fun ρ h0 hlt e1 => ⟨rfl, _, rfl, opsG_step ρ h0 hlt e1⟩) (fun ρ hI hlt e1 => ops_oks hI hlt e1 (amongB_ok ho)) fun ρ he => by
    unfold opsG
    rw [opsL_den, restLL_den]
    have he : ρ.e 0 = ((ρ.ll 0).length : Nat) := he
    show opsM ((ρ.ll 0).drop (ρ.e 0).toNat) = []
    rw [he, Int.toNat_natCast, List.drop_length]; rfl
def ops0 : Sub := ⟨[.lit 0], [.nil, .nil], [.var 0], [], .ix⟩
def opsLR : T LRes := T.sub ops0 (appRes 3 0 1 0 1 .u8 5 opsG (appOk 0 1 (.cnt (.var 0)) opsG))
noncomputable def ops1Ds : List Nat := (theDs Pr 43 3)
noncomputable def ops2Ds : List Nat := (theDs Pr 44 3)
theorem ops1L_ok : LConOk Pr ⟨43, 3, ops1Ds, nilFr ops1H ops0 1, 0, [], opsLR⟩ :=
  LConOk.nil (ob0 := []) (opsHead (oks := oksOf (roundH Pr cfK 100 10 43 3 ops1H [] [3] [0])) (by kernel_rfl) (by kernel_rfl)) ops0 1 rfl (by kernel_rfl) rfl rfl fun ρ r hp hok => appI_nil rfl ρ r hp hok
theorem ops2L_ok : LConOk Pr ⟨44, 3, ops2Ds, nilFr ops2H ops0 1, 0, [], opsLR⟩ :=
  LConOk.nil (ob0 := []) (opsHead (oks := oksOf (roundH Pr cfK 100 10 44 3 ops2H [] [3] [0])) (by kernel_rfl) (by kernel_rfl)) ops0 1 rfl (by kernel_rfl) rfl rfl fun ρ r hp hok => appI_nil rfl ρ r hp hok
theorem opsC_of {f : FuncId} {cf : Cf} (hcf : CfOk Pr cf) (h : shutT (exec Pr cf 100 10 f [opsA 0]) = .leaf (.fs 1 (.ints .u8 (.app 16 .nil (.var 0))), [.lt (.cnt (.var 0)) (.lit 4611686018427387904), .lt (.len (.app 16 .nil (.var 0))) (.lit 1073741824)])) : ConOk Pr (opsC f) := Con.ofExec hm hcf rfl h
noncomputable def cfO : Cf := ⟨tabC [numC 96, numC 32], lpC [⟨43, 3, ops1Ds, nilFr ops1H ops0 1, 0, [], opsLR⟩, ⟨44, 3, ops2Ds, nilFr ops2H ops0 1, 0, [], opsLR⟩], noMg⟩
theorem cfO_ok : CfOk Pr cfO := cfOk_mk (all_cons num1_ok (all_cons num2_ok all_nil)) (all_cons ops1L_ok (all_cons ops2L_ok all_nil))
theorem ops1_ok : ConOk Pr (opsC 43) := opsC_of cfO_ok (by kernel_rfl)
theorem ops2_ok : ConOk Pr (opsC 44) := opsC_of cfO_ok (by kernel_rfl)
end Go.Proofs.Ytgpoomoifgfajaa.E
/- Rows one after the other: contracts. -/
namespace Go.Proofs.Ytgpoomoifgfajaa.E
open Go Go.RowKit
set_option maxRecDepth 100000
set_option linter.unusedVariables false
def llA (i : Nat) : V := .fs 1 (.recs 1 (.cnt (.var i)) (tB .u8 (.var i)))
/-! how many bytes -/
def cat1H : LHead := ⟨[(3, ival 1), (9, llA 0), (10, .int .i64 (.cnt (.var 0))), (11, ival 0)], 0, [], []⟩
def cat1S : Sub := ⟨[.bin .add .i64 (.var 0) (.lit 1), .bin .add .i64 (.var 1) (.len (.at (.var 0) (.var 0)))], [], [.var 0], [], .ix⟩
def cat1I (ρ : Env) : Prop := 0 ≤ ρ.e 0 ∧ ρ.e 0 ≤ ((ρ.ll 0).length : Nat) ∧ (ρ.ll 0).length < 4611686018427387904 ∧ 0 ≤ ρ.e 1 ∧ ρ.e 1 + (((ρ.ll 0).drop (ρ.e 0).toNat).flatten.length : Nat) < 4611686018427387904
def cat1E : E := .bin .add .i64 (.var 1) (.len (.join (restLL (.var 0) (.var 0))))
def cat1R (okr : List B) : T LRes := .leaf ⟨.exit 0, [(3, .int .i64 cat1E)], 0, [], okr⟩
theorem cat1_den (ρ : Env) : cat1E.den ρ = IntKind.i64.wrap (ρ.e 1 + (((ρ.ll 0).drop (ρ.e 0).toNat).flatten.length : Nat)) := by
  show IntKind.i64.wrap (ρ.e 1 + (((restLL (.var 0) (.var 0)).den ρ).flatten.length : Nat)) = _
  rw [restLL_den]; rfl
theorem ll_step {l : List (List Int)} {i : Int} (h0 : 0 ≤ i) (h : i < (l.length : Nat)) : (l.drop i.toNat).flatten = l.getD i.toNat [] ++ (l.drop (i + 1).toNat).flatten := by
  rw [drop_at (d := []) h0 h, List.flatten_cons]
theorem cat1Head {okr : List B} (hr : roundH Pr cf0 100 10 39 3 cat1H [] [3] [] = .br (.lt (.var 0) (.cnt (.var 0))) (.br (.lt (.bin .add .i64 (.var 1) (.len (.at (.var 0) (.var 0)))) (.lit 0)) .dead (.leaf (.go cat1S [opsIx, opsIx]))) (.leaf (.out ⟨.exit 0, [(3, ival 1)], 0, [], []⟩))) : HeadOk Pr 39 3 cat1H cat1I (cat1R okr) := by
  refine HeadOk.of hm cf0_ok hr cat1I (fun ρ => (((ρ.ll 0).length : Nat) - ρ.e 0).toNat) _ (fun ρ _ x hx => by cases hx) fun ρ r hI hp => ?_
  cases hp
  obtain ⟨h1, h2, h3, h4, h5⟩ := hI
  simp only [T.pick]
  have hb : (B.lt (.var 0) (.cnt (.var 0))).den ρ = ltb (ρ.e 0) ((ρ.ll 0).length : Nat) := rfl
  rw [hb]
  cases hc : ltb (ρ.e 0) ((ρ.ll 0).length : Nat) with
  | true =>
    have hlt : ρ.e 0 < ((ρ.ll 0).length : Nat) := ltb_ok hc
    have hst := ll_step (l := ρ.ll 0) h1 hlt
    have hl := congrArg List.length hst
    rw [List.length_append] at hl
    have e0 : (ρ.sub cat1S).e 0 = ρ.e 0 + 1 := add1 h1 hlt (by omega)
    have e1 : (ρ.sub cat1S).e 1 = ρ.e 1 + (((ρ.ll 0).getD (ρ.e 0).toNat []).length : Nat) := by
      refine wrap_id .i64 _ ?_ ?_
      · show (-9223372036854775808 : Int) ≤ ρ.e 1 + (((ρ.ll 0).getD (ρ.e 0).toNat []).length : Nat); omega
      · show ρ.e 1 + (((ρ.ll 0).getD (ρ.e 0).toNat []).length : Nat) ≤ (9223372036854775807 : Int); omega
    have e1' : (E.bin .add .i64 (.var 1) (.len (.at (.var 0) (.var 0)))).den ρ = ρ.e 1 + (((ρ.ll 0).getD (ρ.e 0).toNat []).length : Nat) := e1
    have hb2 : (B.lt (.bin .add .i64 (.var 1) (.len (.at (.var 0) (.var 0)))) (.lit 0)).den ρ = false := by
      show ltb ((E.bin .add .i64 (.var 1) (.len (.at (.var 0) (.var 0)))).den ρ) 0 = false
      rw [e1']; exact ltF (by omega)
    rw [hb2]
    refine ⟨_, rfl, ?_, fun hs => ?_⟩
    · intro b hb
      simp only [List.mem_cons, List.not_mem_nil, or_false, or_self] at hb
      subst hb; exact ok_ix h1 hlt
    · have ell : (ρ.sub cat1S).ll 0 = ρ.ll 0 := rfl
      refine ⟨⟨by rw [e0]; omega, by rw [e0, ell]; omega, by rw [ell]; exact h3, by rw [e1]; omega, by rw [e0, e1, ell]; omega⟩, by rw [e0, ell]; omega, _, rfl, ?_⟩
      refine LRes.mk_imp (fr := [(3, .int .i64 (cat1E.sub cat1S))]) (fr' := [(3, .int .i64 cat1E)]) ⟨rfl, V.imp.int ?_, trivial⟩ trivial
      rw [E.sub_den hs, cat1_den, cat1_den, e0, e1, ell]
      congr 1; omega
  | false =>
    have hge : ((ρ.ll 0).length : Nat) ≤ ρ.e 0 := ltb_no hc
    refine ⟨_, rfl, ?_⟩
    refine ⟨fun b hb => (by cases hb), LRes.mk_imp (fr := [(3, ival 1)]) (fr' := [(3, .int .i64 cat1E)]) (ob := []) (ob' := []) ⟨rfl, V.imp.int ?_, trivial⟩ trivial, by simp⟩
    have : (ρ.e 0).toNat = (ρ.ll 0).length := by omega
    rw [cat1_den, this, List.drop_length]
    show ρ.e 1 = _
    rw [show ρ.e 1 + (((([] : List (List Int)).flatten).length : Nat) : Int) = ρ.e 1 by simp]
    exact (wrap_id .i64 _ (by show (-9223372036854775808 : Int) ≤ _; omega) (by show _ ≤ (9223372036854775807 : Int); omega)).symm
def cat10 : Sub := ⟨[.lit 0, .lit 0], [], [.var 0], [], .ix⟩
noncomputable def cat1Ds : List Nat := theDs Pr 39 3
def catOk : List B := [.lt (.cnt (.var 0)) (.lit 4611686018427387904), .lt (.len (.join (.var 0))) (.lit 1073741824)]
theorem catOk_of {ρ : Env} (h : okOk ρ catOk) : (ρ.ll 0).length < 4611686018427387904 ∧ (ρ.ll 0).flatten.length < 1073741824 := by
  have h1 := h _ (List.mem_cons_self ..)
  have h2 := h _ (List.mem_cons_of_mem _ (List.mem_cons_self ..))
  simp only [B.den, E.den, L.den, LL.den, ltb_eq, decide_eq_true_eq] at h1 h2
  exact ⟨by omega, by omega⟩
theorem cat1L_ok : LConOk Pr ⟨39, 3, cat1Ds, [(3, .int .i64 (.lit 0)), (9, llA 0), (10, .int .i64 (.cnt (.var 0))), (11, .int .i64 (.lit 0))], 0, [], .leaf ⟨.exit 0, [(3, .int .i64 (.len (.join (.var 0))))], 0, [], catOk⟩⟩ := by
  have h := LConOk.ofS (cat1Head (okr := catOk) (by kernel_rfl)) [] cat10 rfl (ds := cat1Ds) (by kernel_rfl) rfl rfl fun ρ r hp hok => by
    cases hp
    have hok : okOk ρ (catOk.map (·.sub cat10)) := hok
    rw [show catOk.map (·.sub cat10) = catOk by kernel_rfl] at hok
    obtain ⟨h1, h2⟩ := catOk_of (ρ := ρ) hok
    refine ⟨Int.le_refl _, ?_, h1, Int.le_refl _, ?_⟩
    · show (0 : Int) ≤ ((ρ.ll 0).length : Nat); omega
    · show (0 : Int) + (((ρ.ll 0).drop 0).flatten.length : Nat) < _
      rw [List.drop_zero]; omega
  have e : catOk.map (·.sub cat10) = catOk := by kernel_rfl
  refine LConOk.alt h rfl fun ρ r hp hok => ?_
  cases hp
  have hok : okOk ρ catOk := hok
  refine ⟨_, rfl, by rw [e]; exact hok, ?_⟩
  obtain ⟨h1, h2⟩ := catOk_of (ρ := ρ) hok
  refine LRes.mk_imp (fr := [(3, .int .i64 (cat1E.sub cat10))]) (fr' := [(3, .int .i64 (.len (.join (.var 0))))]) (ob := []) (ob' := []) ⟨rfl, V.imp.int ?_, trivial⟩ trivial
  rw [E.sub_den (Sub.noix_ok rfl), cat1_den]
  show IntKind.i64.wrap (0 + (((ρ.ll 0).drop 0).flatten.length : Nat)) = ((ρ.ll 0).flatten.length : Nat)
  rw [List.drop_zero, Int.zero_add]
  exact wrap_id .i64 _ (by show (-9223372036854775808 : Int) ≤ _; omega) (by show _ ≤ (9223372036854775807 : Int); omega)
/-! one behind the other -/
def catG : L := .join (restLL (.var 0) (.var 0))
theorem catG_den (ρ : Env) : catG.den ρ = ((ρ.ll 0).drop (ρ.e 0).toNat).flatten := by
  show ((restLL (.var 0) (.var 0)).den ρ).flatten = _
  rw [restLL_den]; rfl
def catS : Sub := ⟨[.bin .add .i64 (.var 0) (.lit 1)], [.cat (.var 0) (.at (.var 0) (.var 0))], [.var 0], [], .ix⟩
def catOks : List B := [.lt (.len (.cat (.var 0) (.at (.var 0) (.var 0)))) (.lit 1073741824), opsIx]
def catT (slot n0 n1 x : Nat) (oks : List B) : T LEnd := .br (.lt (.var 0) (.cnt (.var 0))) (.leaf (.go catS oks)) (.leaf (.out ⟨.exit x, rowFr slot n0 1 (.var 0), n1, rowOb n0 .u8 5 (.var 0), []⟩))
def catRes (slot n0 n1 x : Nat) : T LRes := appRes slot n0 n1 x 0 .u8 5 catG (appOk 0 0 (.cnt (.var 0)) catG)
theorem catHead {f id slot n0 n1 x : Nat} {H : LHead} {osl oob : List Nat} {oks : List B} (hr : roundH Pr cf0 100 10 f id H [] osl oob = catT slot n0 n1 x oks) (ho : amongB catOks oks = true) : HeadOk Pr f id H (appI 0 0 (.cnt (.var 0)) catG) (catRes slot n0 n1 x) := by
  have step : ∀ ρ : Env, 0 ≤ ρ.e 0 → ρ.e 0 < ((ρ.ll 0).length : Nat) → (ρ.sub catS).e 0 = ρ.e 0 + 1 → catG.den ρ = (ρ.ll 0).getD (ρ.e 0).toNat [] ++ catG.den (ρ.sub catS) := fun ρ h0 hlt e1 => by
    rw [catG_den, catG_den, ll_step h0 hlt, e1]; rfl
  refine HeadOk.app hm cf0_ok hr catG (fun _ => rfl) (fun ρ h0 hlt e1 => ⟨rfl, _, rfl, step ρ h0 hlt e1⟩) (fun ρ hI hlt e1 b hb => ?_) fun ρ he => ?_
  · have hb := amongB_ok ho b hb
    simp only [catOks, List.mem_cons, List.not_mem_nil, or_false] at hb
    rcases hb with rfl | rfl
    · refine ok_len (m := 1073741824) ?_
      have h4 := hI.2.2.2
      rw [step ρ hI.1 hlt e1, List.length_append] at h4
      show (ρ.l 0 ++ (ρ.ll 0).getD (ρ.e 0).toNat []).length < _
      rw [List.length_append]; omega
    · exact ok_ix hI.1 hlt
  · have he : ρ.e 0 = ((ρ.ll 0).length : Nat) := he
    rw [catG_den, he, Int.toNat_natCast, List.drop_length]; rfl
def cat2H (n : Nat) (pm : Nat) : LHead := ⟨[(6, .sl n 0 (.lit 0) (.len (.var 0)) 1 true), (25, llA 0), (26, .int .i64 (.cnt (.var 0))), (27, ival 0)], n, [pm], [(n, ⟨.ints .u8 (.var 0), true, 5⟩)]⟩
def joinH : LHead := ⟨[(0, llA 0), (3, .sl 0 0 (.lit 0) (.len (.var 0)) 1 true), (4, ival 0)], 0, [1], [(0, ⟨.ints .u8 (.var 0), true, 5⟩)]⟩
def cat0 : Sub := ⟨[.lit 0], [.nil], [.var 0], [], .ix⟩
noncomputable def cat2Ds : List Nat := theDs Pr 39 11
noncomputable def joinDs : List Nat := theDs Pr 41 3
theorem joinL_ok : LConOk Pr ⟨41, 3, joinDs, nilFr joinH cat0 1, 0, [], T.sub cat0 (catRes 3 0 1 0)⟩ :=
  LConOk.nil (ob0 := []) (catHead (osl := [3]) (oob := [0]) (oks := oksOf (roundH Pr cf0 100 10 41 3 joinH [] [3] [0])) (by kernel_rfl) (by kernel_rfl)) cat0 1 rfl (by kernel_rfl) rfl rfl fun ρ r hp hok => appI_nil rfl ρ r hp hok
theorem cat2L_ok : LConOk Pr ⟨39, 11, cat2Ds, nilFr (cat2H 0 1) cat0 1, 0, [], T.sub cat0 (catRes 6 0 1 2)⟩ :=
  LConOk.nil (ob0 := []) (catHead (osl := [6]) (oob := [0]) (oks := oksOf (roundH Pr cf0 100 10 39 11 (cat2H 0 1) [] [6] [0])) (by kernel_rfl) (by kernel_rfl)) cat0 1 rfl (by kernel_rfl) rfl rfl fun ρ r hp hok => appI_nil rfl ρ r hp hok
theorem cat3L_ok : LConOk Pr ⟨39, 11, cat2Ds, ((cat2H 1 2).at [0]).map fun p => (p.1, p.2.sub cat0), 1, ((cat2H 1 2).obs [0]).map fun p => (p.1, p.2.sub cat0), T.sub cat0 (catRes 6 1 2 2)⟩ :=
  LConOk.ofS (catHead (osl := [6]) (oob := [1]) (oks := oksOf (roundH Pr cf0 100 10 39 11 (cat2H 1 2) [] [6] [1])) (by kernel_rfl) (by kernel_rfl)) [0] cat0 rfl (by kernel_rfl) rfl rfl fun ρ r hp hok => appI_nil rfl ρ r hp hok
noncomputable def cfC : Cf := ⟨noTab, lpC [⟨41, 3, joinDs, nilFr joinH cat0 1, 0, [], T.sub cat0 (catRes 3 0 1 0)⟩, ⟨39, 3, cat1Ds, [(3, .int .i64 (.lit 0)), (9, llA 0), (10, .int .i64 (.cnt (.var 0))), (11, .int .i64 (.lit 0))], 0, [], .leaf ⟨.exit 0, [(3, .int .i64 (.len (.join (.var 0))))], 0, [], catOk⟩⟩,
  ⟨39, 11, cat2Ds, nilFr (cat2H 0 1) cat0 1, 0, [], T.sub cat0 (catRes 6 0 1 2)⟩, ⟨39, 11, cat2Ds, ((cat2H 1 2).at [0]).map fun p => (p.1, p.2.sub cat0), 1, ((cat2H 1 2).obs [0]).map fun p => (p.1, p.2.sub cat0), T.sub cat0 (catRes 6 1 2 2)⟩], noMg⟩
theorem cfC_ok : CfOk Pr cfC := ⟨fun ρ => noTab_ok Pr ρ, fun ρ => lpC_ok (all_cons joinL_ok (all_cons cat1L_ok (all_cons cat2L_ok (all_cons cat3L_ok all_nil))))⟩
def joinF : FRes := ⟨.sl 0 0 (.lit 0) (.len (.join (.var 0))) 1 true, 1, [(0, ⟨.ints .u8 (.join (.var 0)), true, 5⟩)], catOk⟩
def joinC (f : FuncId) : FCon := ⟨f, [llA 0], 0, [], .leaf joinF⟩
theorem join2_ok : FConOk Pr (joinC 41) := FCon.ofExec hm cfC_ok (fuel := 100) (depth := 10) (by kernel_rfl)
def catSub : E := .bin .sub .i64 (.len (.join (.var 0))) (.lit 0)
def catOk1 : List B := catOk ++ [.not (.lt catSub (.lit 0)), .not (.lt catSub (.lit 0)), .lt catSub (.lit 1073741824)] ++ catOk
theorem join1_ok : FConOk Pr (joinC 39) := by
  have h : FConOk Pr ⟨39, [llA 0], 0, [], .br (.lt (.lit 0) catSub) (.leaf { joinF with ok := catOk1 }) (.leaf { joinF with ok := catOk ++ catOk })⟩ := FCon.ofExec hm cfC_ok (fuel := 100) (depth := 10) (by kernel_rfl)
  refine FCon.alt h fun ρ q' hp hok => ?_
  cases hp
  have hok : okOk ρ catOk := hok
  obtain ⟨h1, h2⟩ := catOk_of hok
  have e : catSub.den ρ = ((ρ.ll 0).flatten.length : Nat) := by
    show IntKind.i64.wrap ((((ρ.ll 0).flatten.length : Nat) : Int) - 0) = _
    rw [Int.sub_zero]
    exact wrap_id .i64 _ (by show (-9223372036854775808 : Int) ≤ _; omega) (by show _ ≤ (9223372036854775807 : Int); omega)
  have hb : ∀ b ∈ catOk1, b.den ρ = true := by
    intro b hb
    simp only [catOk1, List.mem_append, List.mem_cons, List.not_mem_nil, or_false] at hb
    have q1 : (B.not (.lt catSub (.lit 0))).den ρ = true := by
      show (!ltb (catSub.den ρ) 0) = true
      rw [e, ltF (by omega)]; rfl
    rcases hb with (hb | rfl | rfl | rfl) | hb
    · exact hok b hb
    · exact q1
    · exact q1
    · show ltb (catSub.den ρ) 1073741824 = true
      rw [e]; exact ltT (by omega)
    · exact hok b hb
  simp only [T.pick]
  cases (B.lt (.lit 0) catSub).den ρ with
  | true => exact ⟨_, rfl, hb, V.imp.refl _ _, rfl, fun id o e => ⟨o, e, rfl, rfl, Row.imp.refl _ _⟩⟩
  | false => exact ⟨_, rfl, fun b hb' => (List.mem_append.1 hb').elim (hok b) (hok b), V.imp.refl _ _, rfl, fun id o e => ⟨o, e, rfl, rfl, Row.imp.refl _ _⟩⟩
end Go.Proofs.Ytgpoomoifgfajaa.E
/- Commits as bytes: loops. -/
namespace Go.Proofs.Ytgpoomoifgfajaa.E
open Go Go.RowKit
set_option maxRecDepth 100000
set_option linter.unusedVariables false
def voteA (i : Nat) : V := .fs 3 (.recs 3 (.cnt (.var i)) (tI .i64 3 (.var i)))
/-- a commit's cells: numbers from letter 'e' on, tag 'l', operations 'a', votes 'b', boxes 'c'. -/
def commitCs (e l a b c : Nat) : List V := [ival e, ival (e + 1), opsA a, voteA b, ival (e + 2), ival (e + 3), ival (e + 4), ival (e + 5), llA c] ++ ((List.range 32).map fun k => .int .u8 (.get (.var l) (.lit (.ofNat k)))) ++ [ival (e + 6), ival (e + 7)]
def commitA : V := .agg (commitCs 0 0 0 1 2)
noncomputable def ttB : TT := tabF [joinC 39, joinC 41] (tabC [numC 96, numC 32, opsC 43, opsC 44])
theorem ttB_ok (ρ : Env) : TTOk Pr ρ ttB := tabF_ok (tabC_ok (all_cons num1_ok (all_cons num2_ok (all_cons ops1_ok (all_cons ops2_ok all_nil))))) (all_cons join1_ok (all_cons join2_ok all_nil))
noncomputable def cfB : Cf := ⟨ttB, lpC [], noMg⟩
theorem cfB_ok : CfOk Pr cfB := ⟨ttB_ok, fun ρ => lpC_ok all_nil⟩
/-! votes -/
def votesL (a : LL) : L := .app 17 .nil a
theorem votesM_wrap (l : List (List Int)) : (votesM l).map IntKind.u8.wrap = votesM l := by
  unfold votesM
  induction l with
  | nil => rfl
  | cons a l ih => rw [List.flatMap_cons, List.map_append, numsM_wrap, ih]
theorem votesM_len (l : List (List Int)) : (votesM l).length = 24 * l.length := by
  unfold votesM
  induction l with
  | nil => rfl
  | cons a l ih => rw [List.flatMap_cons, List.length_append, ih, numsM_len, List.length_map, List.length_range, List.length_cons]; omega
theorem votesL_den (ρ : Env) (a : LL) : (votesL a).den ρ = votesM (a.den ρ) := by
  show (votesM (a.den ρ)).map IntKind.u8.wrap = _
  exact votesM_wrap _
def votesG : L := votesL (restLL (.var 0) (.var 0))
def voteX : L := .cat (oprN 0) (.cat (oprN 1) (oprN 2))
theorem voteX_den (ρ : Env) : voteX.den ρ = numsM ((List.range 3).map fun i => ((ρ.ll 0).getD (ρ.e 0).toNat []).getD i 0) := by
  simp [numsM, List.range_succ, List.flatMap_cons, oprN, numL_den, voteX, L.den, E.den, LL.den]
/-- what a round does to the letters that are looked at. -/
def appSub (s : Sub) (X : L) : Prop := ∀ ρ : Env, (ρ.sub s).e 0 = binI .add .i64 (ρ.e 0) 1 ∧ (ρ.sub s).l 0 = ρ.l 0 ++ X.den ρ ∧ (ρ.sub s).ll 0 = ρ.ll 0
def votesOks : List B := [.lt (.len (.cat (.var 0) voteX)) (.lit 1073741824), .lt (.len (.cat (.var 0) (oprN 0))) (.lit 1073741824), .lt (.len (.cat (.var 0) (.cat (oprN 0) (oprN 1)))) (.lit 1073741824), opsIx]
theorem votesHead {f id slot n0 n1 x : Nat} {H : LHead} {osl oob : List Nat} {s : Sub} {oks : List B} {fr2 : List (Nat × V)} {ob2 : List (Nat × Ob)}
    (hr : roundH Pr cfB 100 10 f id H [] osl oob = .br (.lt (.var 0) (.cnt (.var 0))) (.leaf (.go s oks)) (.leaf (.out ⟨.exit x, rowFr slot n0 1 (.var 0) ++ fr2, n1, rowOb n0 .u8 5 (.var 0) ++ ob2, []⟩)))
    (h2 : subFr s fr2 = fr2) (h3 : subOb s ob2 = ob2) (hs : appSub s voteX) (ho : amongB votesOks oks = true) : HeadOk Pr f id H (appI 0 0 (.cnt (.var 0)) votesG) (appResX slot n0 n1 x 0 .u8 5 votesG (appOk 0 0 (.cnt (.var 0)) votesG) fr2 ob2) := by
  have step : ∀ ρ : Env, 0 ≤ ρ.e 0 → ρ.e 0 < ((ρ.ll 0).length : Nat) → (ρ.sub s).e 0 = ρ.e 0 + 1 → votesG.den ρ = voteX.den ρ ++ votesG.den (ρ.sub s) := fun ρ h0 hlt e1 => by
    unfold votesG
    rw [votesL_den, votesL_den, restLL_den, restLL_den, voteX_den]
    show votesM ((ρ.ll 0).drop (ρ.e 0).toNat) = _ ++ votesM (((ρ.sub s).ll 0).drop ((ρ.sub s).e 0).toNat)
    rw [e1, (hs ρ).2.2, drop_at (d := []) h0 hlt]
    simp only [votesM, List.flatMap_cons]
  refine HeadOk.appX hm cfB_ok hr h2 h3 votesG (fun ρ => (hs ρ).1) (fun ρ h0 hlt e1 => ⟨?_, _, (hs ρ).2.1, step ρ h0 hlt e1⟩) (fun ρ hI hlt e1 b hb => ?_) fun ρ he => ?_
  · show (((ρ.sub s).ll 0).length : Int) = ((ρ.ll 0).length : Nat)
    rw [(hs ρ).2.2]
  · have hb := amongB_ok ho b hb
    have h4 := hI.2.2.2
    rw [step ρ hI.1 hlt e1, List.length_append] at h4
    simp only [votesOks, List.mem_cons, List.not_mem_nil, or_false] at hb
    have hl : (voteX.den ρ).length = 24 := by rw [voteX_den, numsM_len, List.length_map, List.length_range]
    rcases hb with rfl | rfl | rfl | rfl
    · exact ok_len (m := 1073741824) (by show (ρ.l 0 ++ voteX.den ρ).length < _; rw [List.length_append]; omega)
    · exact ok_len (m := 1073741824) (by simp only [L.den, List.length_append, oprN, numL_den, numB_len]; omega)
    · exact ok_len (m := 1073741824) (by simp only [L.den, List.length_append, oprN, numL_den, numB_len]; omega)
    · exact ok_ix hI.1 hlt
  · have he : ρ.e 0 = ((ρ.ll 0).length : Nat) := he
    unfold votesG
    rw [votesL_den, restLL_den]
    show votesM ((ρ.ll 0).drop (ρ.e 0).toNat) = []
    rw [he, Int.toNat_natCast, List.drop_length]; rfl
def vote1H : LHead := ⟨[(3, .sl 9 0 (.lit 0) (.len (.var 0)) 1 true), (28, voteA 0), (29, .int .i64 (.cnt (.var 0))), (30, ival 0)], 9, [15], [(9, ⟨.ints .u8 (.var 0), true, 5⟩)]⟩
def commitOb : List (Nat × Ob) := [(0, ⟨.any (commitCs 1 1 1 0 2), true, 31⟩)]
def vote2H : LHead := ⟨[(1, .ptr 0 (.lit 0) 0 0), (3, .sl 7 0 (.lit 0) (.len (.var 0)) 1 true), (4, ival 0)], 7, [12], (7, ⟨.ints .u8 (.var 0), true, 5⟩) :: commitOb⟩
def vote1S : Sub := ⟨[.bin .add .i64 (.var 0) (.lit 1)], [.cat (.var 0) voteX], [.var 0], [], .ix⟩
def vote2S : Sub := ⟨[.bin .add .i64 (.var 0) (.lit 1), .var 1, .var 2, .var 3, .var 4, .var 5, .var 6, .var 7, .var 8], [.cat (.var 0) voteX, .sub (.var 1) 0 32], [.var 0, .var 1, .var 2], [], .ix⟩
theorem vote1Head : HeadOk Pr 17 3 vote1H (appI 0 0 (.cnt (.var 0)) votesG) (appResX 3 9 10 0 0 .u8 5 votesG (appOk 0 0 (.cnt (.var 0)) votesG) [] []) :=
  votesHead (osl := [3]) (oob := [9]) (s := vote1S) (oks := oksOf (roundH Pr cfB 100 10 17 3 vote1H [] [3] [9])) (by kernel_rfl) rfl rfl (fun _ => ⟨rfl, rfl, rfl⟩) (by kernel_rfl)
theorem vote2Head : HeadOk Pr 18 3 vote2H (appI 0 0 (.cnt (.var 0)) votesG) (appResX 3 7 8 0 0 .u8 5 votesG (appOk 0 0 (.cnt (.var 0)) votesG) [(1, .ptr 0 (.lit 0) 0 0)] commitOb) :=
  votesHead (osl := [3, 1]) (oob := [7, 0]) (s := vote2S) (oks := oksOf (roundH Pr cfB 100 10 18 3 vote2H [] [3, 1] [7, 0])) (by kernel_rfl) (by kernel_rfl) (by kernel_rfl) (fun _ => ⟨rfl, rfl, rfl⟩) (by kernel_rfl)
def from1 : Sub := ⟨[.lit 0], [.var 0], [.var 0], [], .ix⟩
def from2 : Sub := ⟨[.lit 0, .var 1, .var 2, .var 3, .var 4, .var 5, .var 6, .var 7, .var 8], [.var 0, .var 1], [.var 0, .var 1, .var 2], [], .ix⟩
/-- a loop's contract, made of its head. -/
def lcon (f id : Nat) (ds : List Nat) (H : LHead) (p0 : List Nat) (s : Sub) (res : T LRes) : LCon := ⟨f, id, ds, (H.at p0).map fun p => (p.1, p.2.sub s), H.n0, (H.obs p0).map fun p => (p.1, p.2.sub s), T.sub s res⟩
noncomputable def vote1L : LCon := lcon 17 3 (theDs Pr 17 3) vote1H [8] from1 (appResX 3 9 10 0 0 .u8 5 votesG (appOk 0 0 (.cnt (.var 0)) votesG) [] [])
noncomputable def vote2L : LCon := lcon 18 3 (theDs Pr 18 3) vote2H [6] from2 (appResX 3 7 8 0 0 .u8 5 votesG (appOk 0 0 (.cnt (.var 0)) votesG) [(1, .ptr 0 (.lit 0) 0 0)] commitOb)
theorem vote1L_ok : LConOk Pr vote1L := LConOk.ofS vote1Head [8] from1 rfl (by kernel_rfl) rfl rfl fun ρ r hp hok => appX_nil rfl ρ r hp hok
theorem vote2L_ok : LConOk Pr vote2L := LConOk.ofS vote2Head [6] from2 rfl (by kernel_rfl) rfl (by kernel_rfl) fun ρ r hp hok => appX_nil rfl ρ r hp hok
noncomputable def cfB1 : Cf := ⟨ttB, lpC [vote1L, vote2L], noMg⟩
/-! boxes -/
def boxesL (a : LL) : L := .app 18 .nil a
theorem boxesL_den (ρ : Env) (a : LL) : (boxesL a).den ρ = boxesM (a.den ρ) := rfl
def boxesG : L := boxesL (restLL (.var 0) (.var 0))
def boxAt : L := .at (.var 0) (.var 0)
def boxX : L := .cat (numL (.len boxAt)) boxAt
theorem boxX_den (ρ : Env) : boxX.den ρ = numB ((((ρ.ll 0).getD (ρ.e 0).toNat []).length : Nat)) ++ (ρ.ll 0).getD (ρ.e 0).toNat [] := rfl
def boxesOks : List B := [.lt (.len (.cat (.var 0) boxX)) (.lit 1073741824), .lt (.len (.cat (.var 0) (numL (.len boxAt)))) (.lit 1073741824), opsIx]
theorem boxesHead {f id slot n0 n1 x : Nat} {H : LHead} {osl oob : List Nat} {s : Sub} {oks : List B} {fr2 : List (Nat × V)} {ob2 : List (Nat × Ob)}
    (hr : roundH Pr cfB 100 10 f id H [] osl oob = .br (.lt (.var 0) (.cnt (.var 0))) (.leaf (.go s oks)) (.leaf (.out ⟨.exit x, rowFr slot n0 1 (.var 0) ++ fr2, n1, rowOb n0 .u8 5 (.var 0) ++ ob2, []⟩)))
    (h2 : subFr s fr2 = fr2) (h3 : subOb s ob2 = ob2) (hs : appSub s boxX) (ho : amongB boxesOks oks = true) : HeadOk Pr f id H (appI 0 0 (.cnt (.var 0)) boxesG) (appResX slot n0 n1 x 0 .u8 5 boxesG (appOk 0 0 (.cnt (.var 0)) boxesG) fr2 ob2) := by
  have step : ∀ ρ : Env, 0 ≤ ρ.e 0 → ρ.e 0 < ((ρ.ll 0).length : Nat) → (ρ.sub s).e 0 = ρ.e 0 + 1 → boxesG.den ρ = boxX.den ρ ++ boxesG.den (ρ.sub s) := fun ρ h0 hlt e1 => by
    unfold boxesG
    rw [boxesL_den, boxesL_den, restLL_den, restLL_den, boxX_den]
    show boxesM ((ρ.ll 0).drop (ρ.e 0).toNat) = _ ++ boxesM (((ρ.sub s).ll 0).drop ((ρ.sub s).e 0).toNat)
    rw [e1, (hs ρ).2.2, drop_at (d := []) h0 hlt]
    simp only [boxesM, List.flatMap_cons]
  refine HeadOk.appX hm cfB_ok hr h2 h3 boxesG (fun ρ => (hs ρ).1) (fun ρ h0 hlt e1 => ⟨?_, _, (hs ρ).2.1, step ρ h0 hlt e1⟩) (fun ρ hI hlt e1 b hb => ?_) fun ρ he => ?_
  · show (((ρ.sub s).ll 0).length : Int) = ((ρ.ll 0).length : Nat)
    rw [(hs ρ).2.2]
  · have hb := amongB_ok ho b hb
    have h4 := hI.2.2.2
    rw [step ρ hI.1 hlt e1, List.length_append, boxX_den, List.length_append, numB_len] at h4
    simp only [boxesOks, List.mem_cons, List.not_mem_nil, or_false] at hb
    rcases hb with rfl | rfl | rfl
    · exact ok_len (m := 1073741824) (by show (ρ.l 0 ++ boxX.den ρ).length < _; rw [List.length_append, boxX_den, List.length_append, numB_len]; omega)
    · exact ok_len (m := 1073741824) (by simp only [L.den, List.length_append, numL_den, numB_len]; omega)
    · exact ok_ix hI.1 hlt
  · have he : ρ.e 0 = ((ρ.ll 0).length : Nat) := he
    unfold boxesG
    rw [boxesL_den, restLL_den]
    show boxesM ((ρ.ll 0).drop (ρ.e 0).toNat) = []
    rw [he, Int.toNat_natCast, List.drop_length]; rfl
def box1H : LHead := ⟨[(3, .sl 17 0 (.lit 0) (.len (.var 0)) 1 true), (66, llA 0), (67, .int .i64 (.cnt (.var 0))), (68, ival 0)], 17, [21], [(17, ⟨.ints .u8 (.var 0), true, 5⟩)]⟩
def commitOb2 : List (Nat × Ob) := [(0, ⟨.any (commitCs 1 1 1 2 0), true, 31⟩)]
def box2H : LHead := ⟨[(1, .ptr 0 (.lit 0) 0 0), (3, .sl 15 0 (.lit 0) (.len (.var 0)) 1 true), (5, ival 0)], 15, [17], (15, ⟨.ints .u8 (.var 0), true, 5⟩) :: commitOb2⟩
def box1S : Sub := ⟨[.bin .add .i64 (.var 0) (.lit 1)], [.cat (.var 0) boxX], [.var 0], [], .ix⟩
def box2S : Sub := ⟨[.bin .add .i64 (.var 0) (.lit 1), .var 1, .var 2, .var 3, .var 4, .var 5, .var 6, .var 7, .var 8], [.cat (.var 0) boxX, .sub (.var 1) 0 32], [.var 0, .var 1, .var 2], [], .ix⟩
def box1R : T LRes := appResX 3 17 18 2 0 .u8 5 boxesG (appOk 0 0 (.cnt (.var 0)) boxesG) [] []
def box2R : T LRes := appResX 3 15 16 2 0 .u8 5 boxesG (appOk 0 0 (.cnt (.var 0)) boxesG) [(1, .ptr 0 (.lit 0) 0 0)] commitOb2
theorem box1Head : HeadOk Pr 17 9 box1H (appI 0 0 (.cnt (.var 0)) boxesG) box1R :=
  boxesHead (osl := [3]) (oob := [17]) (s := box1S) (oks := oksOf (roundH Pr cfB 100 10 17 9 box1H [] [3] [17])) (by kernel_rfl) rfl rfl (fun _ => ⟨rfl, rfl, rfl⟩) (by kernel_rfl)
theorem box2Head : HeadOk Pr 18 8 box2H (appI 0 0 (.cnt (.var 0)) boxesG) box2R :=
  boxesHead (osl := [3, 1]) (oob := [15, 0]) (s := box2S) (oks := oksOf (roundH Pr cfB 100 10 18 8 box2H [] [3, 1] [15, 0])) (by kernel_rfl) (by kernel_rfl) (by kernel_rfl) (fun _ => ⟨rfl, rfl, rfl⟩) (by kernel_rfl)
noncomputable def box1L : LCon := lcon 17 9 (theDs Pr 17 9) box1H [16] from1 box1R
noncomputable def box2L : LCon := lcon 18 8 (theDs Pr 18 8) box2H [14] from2 box2R
theorem box1L_ok : LConOk Pr box1L := LConOk.ofS box1Head [16] from1 rfl (by kernel_rfl) rfl rfl fun ρ r hp hok => appX_nil rfl ρ r hp hok
theorem box2L_ok : LConOk Pr box2L := LConOk.ofS box2Head [14] from2 rfl (by kernel_rfl) rfl (by kernel_rfl) fun ρ r hp hok => appX_nil rfl ρ r hp hok
noncomputable def cfB2 : Cf := ⟨ttB, lpC [vote1L, vote2L, box1L, box2L], noMg⟩
theorem cfB2_ok : CfOk Pr cfB2 := ⟨ttB_ok, fun ρ => lpC_ok (all_cons vote1L_ok (all_cons vote2L_ok (all_cons box1L_ok (all_cons box2L_ok all_nil))))⟩
end Go.Proofs.Ytgpoomoifgfajaa.E
/- Commits as bytes: contracts. -/
namespace Go.Proofs.Ytgpoomoifgfajaa.E
open Go Go.RowKit
set_option maxRecDepth 100000
set_option linter.unusedVariables false
def catL : List L → L
  | [] => .nil
  | [a] => a
  | a :: b :: l => .cat a (catL (b :: l))
theorem catL_den (ρ : Env) : ∀ l : List L, (catL l).den ρ = l.flatMap (L.den ρ)
  | [] => rfl
  | [a] => by simp [catL]
  | a :: b :: l => by rw [catL, L.den, catL_den ρ (b :: l)]; rfl
def bodyParts : List L := [numL (.var 0), numL (.var 1), numL (.cnt (.var 0)), opsL (.var 0), numL (.cnt (.var 1)), votesL (.var 1), numL (.var 2), numL (.var 3), numL (.var 4), numL (.var 5), numL (.cnt (.var 2)), boxesL (.var 2)]
def bodyL : L := catL bodyParts
def ltLen (l : L) : B := .lt (.len l) (.lit 1073741824)
def ltCnt (l : LL) : B := .lt (.cnt l) (.lit 4611686018427387904)
def bodyOk0 : List B := [ltCnt (.var 2), ltLen bodyL, ltLen (catL (bodyParts.take 11)), ltCnt (.var 1), ltLen (catL (bodyParts.take 6)), ltLen (catL (bodyParts.take 5)), ltCnt (.var 0), ltLen (opsL (.var 0))]
def bodyOk : List B := [ltCnt (.var 0), ltCnt (.var 1), ltCnt (.var 2), ltLen bodyL]
def rowF (l : L) (ok : List B) : FRes := ⟨.sl 0 0 (.lit 0) (.len l) 1 true, 1, [(0, ⟨.ints .u8 l, true, 5⟩)], ok⟩
def bodyC (f : FuncId) : FCon := ⟨f, [commitA], 0, [], .leaf (rowF bodyL bodyOk)⟩
theorem take_len (ρ : Env) (l : List L) (k : Nat) : ((catL (l.take k)).den ρ).length ≤ ((catL l).den ρ).length := by
  rw [catL_den, catL_den]
  conv => rhs; rw [← List.take_append_drop k l]
  rw [List.flatMap_append, List.length_append]; omega
theorem ltLen_of {ρ : Env} {a b : L} (h : (a.den ρ).length ≤ (b.den ρ).length) (hb : (ltLen b).den ρ = true) : (ltLen a).den ρ = true := by
  have : (((b.den ρ).length : Nat) : Int) < 1073741824 := ltb_ok hb
  exact ltT (by show (((a.den ρ).length : Nat) : Int) < 1073741824; omega)
theorem bodyOk_all {ρ : Env} (h : okOk ρ bodyOk) : okOk ρ bodyOk0 := by
  have h0 := h (ltCnt (.var 0)) (by simp [bodyOk])
  have h1 := h (ltCnt (.var 1)) (by simp [bodyOk])
  have h2 := h (ltCnt (.var 2)) (by simp [bodyOk])
  have h3 := h (ltLen bodyL) (by simp [bodyOk])
  intro b hb
  simp only [bodyOk0, List.mem_cons, List.not_mem_nil, or_false] at hb
  rcases hb with rfl | rfl | rfl | rfl | rfl | rfl | rfl | rfl
  · exact h2
  · exact h3
  · exact ltLen_of (take_len ρ bodyParts 11) h3
  · exact h1
  · exact ltLen_of (take_len ρ bodyParts 6) h3
  · exact ltLen_of (take_len ρ bodyParts 5) h3
  · exact h0
  · refine ltLen_of ?_ h3
    unfold bodyL
    rw [catL_den]
    simp only [bodyParts, List.flatMap_cons, List.length_append]
    omega
theorem bodyC_of {f : FuncId} (h : (execF Pr cfB2 100 10 f [commitA] 0 []).bind (compact 0) = .leaf (rowF bodyL bodyOk0)) : FConOk Pr (bodyC f) := by
  refine FCon.alt (FCon.ofExec hm cfB2_ok h) fun ρ q' hp hok => ?_
  cases hp
  exact ⟨_, rfl, bodyOk_all hok, V.imp.refl _ _, rfl, fun id o e => ⟨o, e, rfl, rfl, Row.imp.refl _ _⟩⟩
theorem body1_ok : FConOk Pr (bodyC 17) := bodyC_of (by kernel_rfl)
theorem body2_ok : FConOk Pr (bodyC 18) := bodyC_of (by kernel_rfl)
end Go.Proofs.Ytgpoomoifgfajaa.E
/- May a commit be? -/
namespace Go.Proofs.Ytgpoomoifgfajaa.E
open Go Go.RowKit
set_option maxRecDepth 100000
set_option linter.unusedVariables false
noncomputable def cfM : Cf := ⟨noTab, lpC [], allMg⟩
theorem cfM_ok : CfOk Pr cfM := ⟨fun ρ => noTab_ok Pr ρ, fun ρ => lpC_ok all_nil⟩
def inBs (e : E) (m : Int) : List B := [.not (.lt e (.lit 0)), .not (.lt (.lit m) e)]
def andB : List B → B
  | [] => .lit true
  | [a] => a
  | a :: b :: l => .and a (andB (b :: l))
def elB (l k : Nat) : E := .get (.at (.var l) .ix) (.lit (.ofNat k))
def opB (l : Nat) : B := .lt (.find (.cnt (.var l)) (.not (andB (inBs (elB l 0) 1099511627776 ++ inBs (elB l 1) 1099511627776 ++ inBs (elB l 2) 1099511627776 ++ inBs (elB l 3) 1099511627776 ++ inBs (elB l 4) 1099511627776)))) (.cnt (.var l))
def voteB (l : Nat) : B := .lt (.find (.cnt (.var l)) (.not (andB (inBs (elB l 0) 7 ++ inBs (elB l 1) 1073741788 ++ inBs (elB l 2) 1073741788)))) (.cnt (.var l))
def boxB (l : Nat) : B := .lt (.find (.cnt (.var l)) (.lt (.lit 300) (.len (.at (.var l) .ix)))) (.cnt (.var l))
/-- a commit that may be. -/
def mayB : B := andB (inBs (.var 0) 1099511627776 ++ inBs (.var 1) 7 ++ inBs (.var 2) 2147483579 ++ inBs (.var 3) 2147483579 ++ inBs (.var 4) 2147483579 ++ inBs (.var 5) 2147483579 ++ inBs (.var 6) 1073741788 ++ inBs (.var 7) 1073741788 ++
  [.not (.lt (.lit 4) (.cnt (.var 0))), .not (.lt (.lit 8) (.cnt (.var 1))), .not (.lt (.lit 16) (.cnt (.var 2))), .not (opB 0), .not (voteB 1), .not (boxB 2)])
/-- a truth that is asked for as a whole. -/
def hideB (b : B) : B := .lt (.lit 0) (.ofB b)
theorem hideB_den (ρ : Env) (b : B) : (hideB b).den ρ = b.den ρ := by
  show ltb 0 (b2i (b.den ρ)) = _
  cases b.den ρ <;> rfl
theorem Con.hide {P : Program} {g : FuncId} {args : List V} {b : B} {fs : List B} (h : ConOk P ⟨g, args, .leaf (.bool b, fs)⟩) : ConOk P ⟨g, args, .leaf (.bool (hideB b), fs)⟩ := by
  refine Con.alt h fun ρ r' bs' hp hok => ?_
  cases hp
  refine ⟨_, _, rfl, hok, fun β x e hr => ?_⟩
  have hr : F1 (.bool b) β.g x := hr
  have : F1 (.bool (hideB b)) β.g x := by
    simp only [F1] at hr ⊢
    rw [hr, hideB_den]
  exact R0.toR (F1.up this)
def mayC (f : FuncId) : Con := ⟨f, [commitA], .leaf (.bool (hideB mayB), [ltCnt (.var 0), ltCnt (.var 1), ltCnt (.var 2)])⟩
theorem may1_ok : ConOk Pr (mayC 38) := Con.hide (Con.bool (Con.ofExec hm cfM_ok (fuel := 100) (depth := 12) rfl rfl) mayB _ (by kernel_rfl))
theorem may2_ok : ConOk Pr (mayC 20) := Con.hide (Con.bool (Con.ofExec hm cfM_ok (fuel := 100) (depth := 10) rfl rfl) mayB _ (by kernel_rfl))
end Go.Proofs.Ytgpoomoifgfajaa.E
/- Commits as bytes, whole: contracts. -/
namespace Go.Proofs.Ytgpoomoifgfajaa.E
open Go Go.RowKit
set_option maxRecDepth 100000
set_option linter.unusedVariables false
noncomputable def ttC : TT := tabF [joinC 39, joinC 41, bodyC 17, bodyC 18] (tabC [numC 96, numC 32, mayC 38, mayC 20])
noncomputable def cfC2 : Cf := ⟨ttC, lpC [], noMg⟩
theorem cfC2_ok : CfOk Pr cfC2 := ⟨fun ρ => tabF_ok (tabC_ok (all_cons num1_ok (all_cons num2_ok (all_cons may1_ok (all_cons may2_ok all_nil))))) (all_cons join1_ok (all_cons join2_ok (all_cons body1_ok (all_cons body2_ok all_nil)))), fun ρ => lpC_ok all_nil⟩
def commitL : L := .cons (.lit 1) (catL (bodyParts ++ [.sub (.var 0) 0 32, numL (.var 6), numL (.var 7)]))
def cnts : List B := [ltCnt (.var 0), ltCnt (.var 1), ltCnt (.var 2)]
def commitT : T FRes := .br (hideB mayB) (.leaf ⟨.tup [.sl 0 0 (.lit 0) (.len commitL) 1 true, .int .i64 (.lit 0)], 1, [(0, ⟨.ints .u8 commitL, true, 5⟩)], ltLen commitL :: (cnts ++ ltLen bodyL :: cnts)⟩) (.leaf ⟨.tup [.sc (.slice none 0 0), .int .i64 (.lit 1)], 0, [], cnts⟩)
def commitC (f : FuncId) : FCon := ⟨f, [commitA], 0, [], commitT⟩
theorem commit1_ok : FConOk Pr (commitC 15) := FCon.ofExec hm cfC2_ok (fuel := 100) (depth := 10) (by kernel_rfl)
theorem commit2_ok : FConOk Pr (commitC 16) := FCon.ofExec hm cfC2_ok (fuel := 100) (depth := 10) (by kernel_rfl)
end Go.Proofs.Ytgpoomoifgfajaa.E
/- How much a commit is: the laws' own loop. -/
namespace Go.Proofs.Ytgpoomoifgfajaa.E
open Go Go.RowKit
set_option maxRecDepth 100000
set_option linter.unusedVariables false
def bigOb : List (Nat × Ob) := [(0, ⟨.any (commitCs 2 0 1 2 0), true, 31⟩)]
def bigH : LHead := ⟨[(1, .ptr 0 (.lit 0) 0 0), (3, ival 1), (4, ival 0)], 1, [], bigOb⟩
def cfL : Cf := ⟨noTab, lpC [], noMg⟩
theorem cfL_ok : CfOk Pr cfL := ⟨fun ρ => noTab_ok Pr ρ, fun ρ => lpC_ok all_nil⟩
def bigE : E := .get (.app 19 (.cons (.var 1) .nil) (restLL (.var 0) (.var 0))) (.lit 0)
theorem bigE_den (ρ : Env) : bigE.den ρ = bigN (ρ.e 1) ((ρ.ll 0).drop (ρ.e 0).toNat) := by
  show bigN (ρ.e 1) ((restLL (.var 0) (.var 0)).den ρ) = _
  rw [restLL_den]; rfl
def bigS : Sub := ⟨[.bin .add .i64 (.var 0) (.lit 1), .bin .add .i64 (.var 1) (.len (.at (.var 0) (.var 0))), .var 2, .var 3, .var 4, .var 5, .var 6, .var 7, .var 8, .var 9], [.sub (.var 0) 0 32], [.var 0, .var 1, .var 2], [], .ix⟩
def bigI (ρ : Env) : Prop := 0 ≤ ρ.e 0 ∧ ρ.e 0 ≤ ((ρ.ll 0).length : Nat) ∧ (ρ.ll 0).length < 4611686018427387904
def bigOkr : List B := [.not (.lt (.var 0) (.lit 0)), .not (.lt (.cnt (.var 0)) (.var 0)), ltCnt (.var 0)]
def bigFr (e : E) : List (Nat × V) := [(1, .ptr 0 (.lit 0) 0 0), (3, .int .i64 e)]
def bigR : T LRes := .leaf ⟨.exit 0, bigFr bigE, 1, bigOb, bigOkr⟩
def bigT : T LEnd := .br (.lt (.var 0) (.cnt (.var 0))) (.br (.lt (.var 1) (.lit 3000)) (.leaf (.go bigS [opsIx, opsIx])) (.leaf (.out ⟨.exit 0, bigFr (.var 1), 1, bigOb, []⟩))) (.leaf (.out ⟨.exit 0, bigFr (.var 1), 1, bigOb, []⟩))
theorem lt3000 (n : Int) : (match n with | .ofNat m => Nat.blt m 3000 | .negSucc _ => true) = ltb n 3000 := by
  cases n <;> rfl
theorem bigN_cons (n : Int) (r : List Int) (l : List (List Int)) : bigN n (r :: l) = bif ltb n 3000 then bigN (IntKind.i64.wrap (n + (r.length : Nat))) l else n := by
  cases n <;> rfl
theorem bigN_nil (n : Int) : bigN n [] = n := by cases n <;> rfl
theorem bigHead : HeadOk Pr 14 3 bigH bigI bigR := by
  have hr : roundH Pr cfL 100 12 14 3 bigH [] [1, 3] [0] = bigT := by kernel_rfl
  have hob : subOb bigS bigOb = bigOb := by kernel_rfl
  refine HeadOk.of hm cfL_ok hr bigI (fun ρ => (((ρ.ll 0).length : Nat) - ρ.e 0).toNat) _ (fun ρ _ x hx => by cases hx) fun ρ r hI hp => ?_
  cases hp
  obtain ⟨h1, h2, h3⟩ := hI
  have out : ρ.e 1 = bigE.den ρ → ∀ ok, LRes.imp ρ ⟨.exit 0, bigFr (.var 1), 1, bigOb, []⟩ ⟨.exit 0, bigFr bigE, 1, bigOb, ok⟩ := fun he ok =>
    LRes.mk_imp ⟨rfl, V.imp.refl _ _, rfl, V.imp.int he, trivial⟩ (ImpOb.refl _ _)
  unfold bigT
  simp only [T.pick]
  have hb : (B.lt (.var 0) (.cnt (.var 0))).den ρ = ltb (ρ.e 0) ((ρ.ll 0).length : Nat) := rfl
  have hb2 : (B.lt (.var 1) (.lit 3000)).den ρ = ltb (ρ.e 1) 3000 := rfl
  rw [hb, hb2]
  cases hc : ltb (ρ.e 0) ((ρ.ll 0).length : Nat) with
  | true =>
    have hlt : ρ.e 0 < ((ρ.ll 0).length : Nat) := ltb_ok hc
    have hd := drop_at (l := ρ.ll 0) (d := []) h1 hlt
    cases hc2 : ltb (ρ.e 1) 3000 with
    | true =>
      have e0 : (ρ.sub bigS).e 0 = ρ.e 0 + 1 := add1 h1 hlt (by omega)
      have e1 : (ρ.sub bigS).e 1 = IntKind.i64.wrap (ρ.e 1 + (((ρ.ll 0).getD (ρ.e 0).toNat []).length : Nat)) := rfl
      have ell : (ρ.sub bigS).ll 0 = ρ.ll 0 := rfl
      refine ⟨_, rfl, ?_, fun hs => ?_⟩
      · intro b hb
        simp only [List.mem_cons, List.not_mem_nil, or_false, or_self] at hb
        subst hb; exact ok_ix h1 hlt
      · refine ⟨⟨by rw [e0]; omega, by rw [e0, ell]; omega, by rw [ell]; exact h3⟩, by rw [e0, ell]; omega, _, rfl, ?_⟩
        unfold LRes.subst
        simp only
        have e3 : bigOb.map (fun p => (p.1, p.2.sub bigS)) = bigOb := hob
        rw [e3]
        refine LRes.mk_imp (fr := [(1, .ptr 0 (.lit 0) 0 0), (3, .int .i64 (bigE.sub bigS))]) (fr' := bigFr bigE) ⟨rfl, V.imp.refl _ _, rfl, V.imp.int ?_, trivial⟩ (ImpOb.refl _ _)
        rw [E.sub_den hs, bigE_den, bigE_den, e0, e1, ell, hd, bigN_cons, hc2, cond_true]
    | false =>
      refine ⟨_, rfl, ?_⟩
      refine ⟨fun b hb => (by cases hb), out ?_ _, by simp⟩
      rw [bigE_den, hd, bigN_cons, hc2, cond_false]
  | false =>
    have hge : ((ρ.ll 0).length : Nat) ≤ ρ.e 0 := ltb_no hc
    refine ⟨_, rfl, ?_⟩
    refine ⟨fun b hb => (by cases hb), out ?_ _, by simp⟩
    have : (ρ.e 0).toNat = (ρ.ll 0).length := by omega
    rw [bigE_den, this, List.drop_length, bigN_nil]
def big0 : Sub := ⟨[.lit 0, .var 1, .var 2, .var 3, .var 4, .var 5, .var 6, .var 7, .var 8, .var 9], [.var 0], [.var 0, .var 1, .var 2], [], .ix⟩
noncomputable def bigL : LCon := lcon 14 3 (theDs Pr 14 3) bigH [] big0 bigR
theorem bigL_ok : LConOk Pr bigL := LConOk.ofS bigHead [] big0 rfl (by kernel_rfl) rfl (by kernel_rfl) fun ρ r hp hok => by
  cases hp
  have h3 : ((ρ.ll 0).length : Int) < 4611686018427387904 := ltb_ok (a := ((ρ.ll 0).length : Nat)) (by
    have := hok ((ltCnt (.var 0)).sub big0) (by simp [bigOkr])
    rwa [B.sub_den (Sub.noix_ok rfl)] at this)
  exact ⟨Int.le_refl _, by show (0 : Int) ≤ ((ρ.ll 0).length : Nat); omega, by show (ρ.ll 0).length < _; omega⟩
noncomputable def cfL1 : Cf := ⟨noTab, lpC [bigL], noMg⟩
theorem cfL1_ok : CfOk Pr cfL1 := ⟨fun ρ => noTab_ok Pr ρ, fun ρ => lpC_ok (all_cons bigL_ok all_nil)⟩
def bigB : B := .not (.lt (.get (.app 19 (.cons (.bin .add .i64 (.bin .add .i64 (.cnt (.var 0)) (.cnt (.var 1))) (.cnt (.var 2))) .nil) (.var 2)) (.lit 0)) (.lit 3000))
def bigC : Con := ⟨14, [commitA], .leaf (.bool bigB, [ltCnt (.var 2)])⟩
theorem big_ok : ConOk Pr bigC := Con.ofExec hm cfL1_ok (fuel := 100) (depth := 10) rfl (by kernel_rfl)
end Go.Proofs.Ytgpoomoifgfajaa.E
/- WireLong: the law's own loop. -/
namespace Go.Proofs.Ytgpoomoifgfajaa.E
open Go Go.RowKit
set_option maxRecDepth 100000
set_option linter.unusedVariables false
def longE : E := .bin .add .i64 (.var 1) (.len (boxesL (restLL (.var 0) (.var 0))))
theorem longE_den (ρ : Env) : longE.den ρ = IntKind.i64.wrap (ρ.e 1 + ((boxesM ((ρ.ll 0).drop (ρ.e 0).toNat)).length : Nat)) := by
  show IntKind.i64.wrap (ρ.e 1 + ((boxesM ((restLL (.var 0) (.var 0)).den ρ)).length : Nat)) = _
  rw [restLL_den]; rfl
def longI (ρ : Env) : Prop := 0 ≤ ρ.e 0 ∧ ρ.e 0 ≤ ((ρ.ll 0).length : Nat) ∧ (ρ.ll 0).length < 4611686018427387904 ∧ -9223372036854775808 ≤ ρ.e 1 ∧ ρ.e 1 ≤ 9223372036854775807
def longS : Sub := ⟨[.bin .add .i64 (.var 0) (.lit 1), .bin .add .i64 (.bin .add .i64 (.var 1) (.lit 8)) (.len (.at (.var 0) (.var 0))), .var 2, .var 3, .var 4, .var 5, .var 6, .var 7, .var 8, .var 9], [.sub (.var 0) 0 32], [.var 0, .var 1, .var 2], [], .ix⟩
def longOkr : List B := bigOkr ++ [.not (.lt (.var 1) (.lit (-9223372036854775808))), .not (.lt (.lit 9223372036854775807) (.var 1))]
def longR : T LRes := .leaf ⟨.exit 0, bigFr longE, 1, bigOb, longOkr⟩
def longT : T LEnd := .br (.lt (.var 0) (.cnt (.var 0))) (.leaf (.go longS [opsIx, opsIx])) (.leaf (.out ⟨.exit 0, bigFr (.var 1), 1, bigOb, []⟩))
theorem wrap64 (n : Int) : IntKind.i64.wrap n = if n % 18446744073709551616 ≥ 9223372036854775808 then n % 18446744073709551616 - 18446744073709551616 else n % 18446744073709551616 := by
  show (if (true && decide (n % 18446744073709551616 ≥ 9223372036854775808)) = true then _ else _) = _
  simp only [Bool.true_and, decide_eq_true_eq]
  rfl
theorem wrap_step (a b c : Int) : IntKind.i64.wrap (IntKind.i64.wrap (IntKind.i64.wrap (a + 8) + b) + c) = IntKind.i64.wrap (a + (8 + b + c)) := by
  rw [wrap64, wrap64, wrap64, wrap64]
  split <;> split <;> split <;> split <;> omega
theorem longHead : HeadOk Pr 5 5 bigH longI longR := by
  have hr : roundH Pr cfL 100 12 5 5 bigH [] [1, 3] [0] = longT := by kernel_rfl
  have hob : subOb longS bigOb = bigOb := by kernel_rfl
  refine HeadOk.of hm cfL_ok hr longI (fun ρ => (((ρ.ll 0).length : Nat) - ρ.e 0).toNat) _ (fun ρ _ x hx => by cases hx) fun ρ r hI hp => ?_
  cases hp
  obtain ⟨h1, h2, h3, h4, h5⟩ := hI
  unfold longT
  simp only [T.pick]
  have hb : (B.lt (.var 0) (.cnt (.var 0))).den ρ = ltb (ρ.e 0) ((ρ.ll 0).length : Nat) := rfl
  rw [hb]
  cases hc : ltb (ρ.e 0) ((ρ.ll 0).length : Nat) with
  | true =>
    have hlt : ρ.e 0 < ((ρ.ll 0).length : Nat) := ltb_ok hc
    have hd := drop_at (l := ρ.ll 0) (d := []) h1 hlt
    have e0 : (ρ.sub longS).e 0 = ρ.e 0 + 1 := add1 h1 hlt (by omega)
    have e1 : (ρ.sub longS).e 1 = IntKind.i64.wrap (IntKind.i64.wrap (ρ.e 1 + 8) + (((ρ.ll 0).getD (ρ.e 0).toNat []).length : Nat)) := rfl
    have ell : (ρ.sub longS).ll 0 = ρ.ll 0 := rfl
    have hw := wrap_rg .i64 (IntKind.i64.wrap (ρ.e 1 + 8) + (((ρ.ll 0).getD (ρ.e 0).toNat []).length : Nat))
    refine ⟨_, rfl, ?_, fun hs => ?_⟩
    · intro b hb
      simp only [List.mem_cons, List.not_mem_nil, or_false, or_self] at hb
      subst hb; exact ok_ix h1 hlt
    · refine ⟨⟨by rw [e0]; omega, by rw [e0, ell]; omega, by rw [ell]; exact h3, by rw [e1]; exact hw.1, by rw [e1]; exact hw.2⟩, by rw [e0, ell]; omega, _, rfl, ?_⟩
      unfold LRes.subst
      simp only
      have e3 : bigOb.map (fun p => (p.1, p.2.sub longS)) = bigOb := hob
      rw [e3]
      refine LRes.mk_imp (fr := [(1, .ptr 0 (.lit 0) 0 0), (3, .int .i64 (longE.sub longS))]) (fr' := bigFr longE) ⟨rfl, V.imp.refl _ _, rfl, V.imp.int ?_, trivial⟩ (ImpOb.refl _ _)
      rw [E.sub_den hs, longE_den, longE_den, e0, e1, ell, hd, wrap_step]
      congr 1
      simp only [boxesM, List.flatMap_cons, List.length_append, numB_len]
      omega
  | false =>
    have hge : ((ρ.ll 0).length : Nat) ≤ ρ.e 0 := ltb_no hc
    refine ⟨_, rfl, ?_⟩
    refine ⟨fun b hb => (by cases hb), LRes.mk_imp (fr := bigFr (.var 1)) (fr' := bigFr longE) ⟨rfl, V.imp.refl _ _, rfl, V.imp.int ?_, trivial⟩ (ImpOb.refl _ _), by simp⟩
    have : (ρ.e 0).toNat = (ρ.ll 0).length := by omega
    rw [longE_den, this, List.drop_length]
    show ρ.e 1 = IntKind.i64.wrap (ρ.e 1 + 0)
    rw [Int.add_zero]
    exact (wrap_id .i64 _ h4 h5).symm
theorem nltR {ρ : Env} {a b : E} (h : (B.not (.lt a b)).den ρ = true) : b.den ρ ≤ a.den ρ := by
  simp only [B.den, ltb_eq] at h
  simpa using h
noncomputable def longL : LCon := lcon 5 5 (theDs Pr 5 5) bigH [] big0 longR
theorem longL_ok : LConOk Pr longL := LConOk.ofS longHead [] big0 rfl (by kernel_rfl) rfl (by kernel_rfl) fun ρ r hp hok => by
  cases hp
  have hm' : ∀ b ∈ longOkr, b.den (ρ.sub big0) = true := fun b hb => by
    rw [← B.sub_den (Sub.noix_ok (s := big0) rfl)]; exact hok _ (List.mem_map.2 ⟨b, hb, rfl⟩)
  have h3 : ((ρ.ll 0).length : Int) < 4611686018427387904 := ltb_ok (hm' (ltCnt (.var 0)) (by simp [longOkr, bigOkr]))
  have h4 : -9223372036854775808 ≤ ρ.e 1 := nltR (ρ := ρ.sub big0) (a := .var 1) (b := .lit (-9223372036854775808)) (hm' _ (by simp [longOkr, bigOkr]))
  have h5 : ρ.e 1 ≤ 9223372036854775807 := nltR (ρ := ρ.sub big0) (a := .lit 9223372036854775807) (b := .var 1) (hm' _ (by simp [longOkr, bigOkr]))
  exact ⟨Int.le_refl _, by show (0 : Int) ≤ ((ρ.ll 0).length : Nat); omega, by show (ρ.ll 0).length < _; omega, h4, h5⟩
noncomputable def ttW : TT := tabF [commitC 15, commitC 16, bodyC 17, bodyC 18] (tabC [mayC 20, bigC])
theorem ttW_ok (ρ : Env) : TTOk Pr ρ ttW := tabF_ok (tabC_ok (all_cons may2_ok (all_cons big_ok all_nil))) (all_cons commit1_ok (all_cons commit2_ok (all_cons body1_ok (all_cons body2_ok all_nil))))
end Go.Proofs.Ytgpoomoifgfajaa.E
/- The wire laws' own closed step; a law by its arguments' types. -/
namespace Go.Proofs.Ytgpoomoifgfajaa.E
open Go Go.RowKit
set_option maxRecDepth 100000
set_option linter.unusedVariables false
def knownC : Con := ⟨19, [], .leaf (.bool (.lit true), [])⟩
theorem knownC_ok : ConOk Pr knownC := Con.ofExec hm (cf := ⟨noTab, lpC [], noMg⟩) cfL_ok (fuel := 4000) (depth := 40) rfl (by kernel_rfl)
noncomputable def ttW1 : TT := tabF [commitC 15, commitC 16, bodyC 17, bodyC 18] (tabC [mayC 20, bigC, knownC])
theorem ttW1_ok (ρ : Env) : TTOk Pr ρ ttW1 := tabF_ok (tabC_ok (all_cons may2_ok (all_cons big_ok (all_cons knownC_ok all_nil)))) (all_cons commit1_ok (all_cons commit2_ok (all_cons body1_ok (all_cons body2_ok all_nil))))
noncomputable def cfW : Cf := ⟨ttW1, lpC [longL], noMg⟩
theorem cfW_ok : CfOk Pr cfW := ⟨ttW1_ok, fun ρ => lpC_ok (all_cons longL_ok all_nil)⟩
end Go.Proofs.Ytgpoomoifgfajaa.E
/- WireLong, WireCommits: what is left to show. -/
namespace Go.Proofs.Ytgpoomoifgfajaa.E
open Go Go.RowKit
set_option maxRecDepth 100000
set_option linter.unusedVariables false
def commitK : List K1 := [.int .i64, .int .i64, .sl [.int .i64, .int .i64, .int .i64, .int .i64, .int .i64], .sl [.int .i64, .int .i64, .int .i64], .int .i64, .int .i64, .int .i64, .int .i64, .sl [.ints 1 .u8], .bytes 32, .int .i64, .int .i64]
theorem commitK_ok : kindsT Pr 10 31 = some commitK := by kernel_rfl
theorem commitK_pat : patArgs Pr [(31, commitK)] cn0 = [commitA] := by kernel_rfl
def bigX : E := .get (.app 19 (.cons (.bin .add .i64 (.bin .add .i64 (.cnt (.var 0)) (.cnt (.var 1))) (.cnt (.var 2))) .nil) (.var 2)) (.lit 0)
def smallC : B := .lt bigX (.lit 3000)
theorem bigN_sum : ∀ (l : List (List Int)) (n : Int), 0 ≤ n → (∀ r ∈ l, r.length ≤ reachBytes) → bigN n l < 3000 → n + (l.flatten.length : Nat) < 3000
  | [], n, h0, _, h => by rw [bigN_nil] at h; simpa using h
  | r :: l, n, h0, hr, h => by
    rw [bigN_cons] at h
    cases hc : ltb n 3000 with
    | false => rw [hc, cond_false] at h; have := ltb_no hc; omega
    | true =>
      rw [hc, cond_true] at h
      have h1 := ltb_ok hc
      have h2 := hr r (by simp)
      have hrb : reachBytes = 140737488351232 := rfl
      have hw : IntKind.i64.wrap (n + (r.length : Nat)) = n + (r.length : Nat) := wrap_id .i64 _ (by show (-9223372036854775808 : Int) ≤ _; omega) (by show _ ≤ (9223372036854775807 : Int); omega)
      rw [hw] at h
      have := bigN_sum l _ (by omega) (fun r hr' => hr r (by simp [hr'])) h
      rw [List.flatten_cons, List.length_append]; omega
structure CommitF (ρ : Env) : Prop where
  a : (ρ.ll 0).length ≤ reachBytes
  b : (ρ.ll 1).length ≤ reachBytes
  c : (ρ.ll 2).length ≤ reachBytes
  r : ∀ r ∈ ρ.ll 2, r.length ≤ reachBytes ∧ ∀ x ∈ r, IntKind.u8.has x
  ra : ∀ r ∈ ρ.ll 0, r.length = 5 ∧ ∀ x ∈ r, IntKind.i64.has x
  rb : ∀ r ∈ ρ.ll 1, r.length = 3 ∧ ∀ x ∈ r, IntKind.i64.has x
  t : (ρ.l 0).length = 32
  tb : ∀ x ∈ ρ.l 0, IntKind.u8.has x
  e : ∀ i, i < 8 → IntKind.i64.has (ρ.e i)
theorem commit_facts {ρ : Env} (h : factArgs [(31, commitK)] cn0 ρ) : CommitF ρ := by
  obtain ⟨⟨f0, f1, ⟨fa, _, fa2, _⟩, ⟨fb, _, fb2, _⟩, f2, f3, f4, f5, ⟨fc, _, _, fc2⟩, ⟨ft, ftb⟩, f6, f7, _⟩, _⟩ := h
  refine ⟨fa, fb, fc, fun r hr => ?_, fun r hr => ?_, fun r hr => ?_, ft, ftb, fun i hi => ?_⟩
  · obtain ⟨i, hi, rfl⟩ := List.getElem_of_mem hr
    obtain ⟨x, t, e, ⟨h1, m, hm, h2⟩, _⟩ := fc2 i hi
    have he : x = (ρ.ll 2)[i] := by
      have : (List.range 1).map (fun q => (ρ.ll (2 + 0 + q)).getD i []) = [(ρ.ll 2)[i]] := by
        simp [List.range_succ, List.getD, List.getElem?_eq_getElem hi]
      rw [show cntS [.ints 1 .u8] = 1 from rfl] at e
      have e' : [(ρ.ll 2)[i]] = x :: t := this.symm.trans e
      cases e'; rfl
    rw [← he]
    exact ⟨by omega, h1⟩
  · obtain ⟨x1, t1, rfl, g1, x2, t2, rfl, g2, x3, t3, rfl, g3, x4, t4, rfl, g4, x5, t5, rfl, g5, e⟩ := fa2 rfl r hr
    have e : t5 = [] := e
    subst e
    exact ⟨rfl, by simp [g1, g2, g3, g4, g5]⟩
  · obtain ⟨x1, t1, rfl, g1, x2, t2, rfl, g2, x3, t3, rfl, g3, e⟩ := fb2 rfl r hr
    have e : t3 = [] := e
    subst e
    exact ⟨rfl, by simp [g1, g2, g3]⟩
  · match i, hi with
    | 0, _ => exact f0
    | 1, _ => exact f1
    | 2, _ => exact f2
    | 3, _ => exact f3
    | 4, _ => exact f4
    | 5, _ => exact f5
    | 6, _ => exact f6
    | 7, _ => exact f7
theorem bigX_den (ρ : Env) : bigX.den ρ = bigN (IntKind.i64.wrap (IntKind.i64.wrap (((ρ.ll 0).length : Nat) + ((ρ.ll 1).length : Nat)) + ((ρ.ll 2).length : Nat))) (ρ.ll 2) := rfl
theorem small_sum {ρ : Env} (h : CommitF ρ) (hs : smallC.den ρ = true) : (ρ.ll 0).length + (ρ.ll 1).length + (ρ.ll 2).length + (ρ.ll 2).flatten.length < 3000 := by
  have h1 := h.a; have h2 := h.b; have h3 := h.c
  have hrb : reachBytes = 140737488351232 := rfl
  have hs : bigX.den ρ < 3000 := ltb_ok hs
  rw [bigX_den] at hs
  have w1 : IntKind.i64.wrap ((((ρ.ll 0).length : Nat) : Int) + ((ρ.ll 1).length : Nat)) = ((ρ.ll 0).length : Nat) + ((ρ.ll 1).length : Nat) := wrap_id .i64 _ (by show (-9223372036854775808 : Int) ≤ _; omega) (by show _ ≤ (9223372036854775807 : Int); omega)
  rw [w1] at hs
  have w2 : IntKind.i64.wrap ((((ρ.ll 0).length : Nat) : Int) + ((ρ.ll 1).length : Nat) + ((ρ.ll 2).length : Nat)) = ((ρ.ll 0).length : Nat) + ((ρ.ll 1).length : Nat) + ((ρ.ll 2).length : Nat) := wrap_id .i64 _ (by show (-9223372036854775808 : Int) ≤ _; omega) (by show _ ≤ (9223372036854775807 : Int); omega)
  rw [w2] at hs
  have := bigN_sum _ _ (by omega) (fun r hr => (h.r r hr).1) hs
  omega
theorem boxesM_len (l : List (List Int)) : (boxesM l).length = 8 * l.length + l.flatten.length := by
  unfold boxesM
  induction l with
  | nil => rfl
  | cons a l ih => rw [List.flatMap_cons, List.length_append, List.length_append, ih, numB_len, List.length_cons, List.flatten_cons, List.length_append]; omega
theorem body_den (ρ : Env) : bodyL.den ρ = numB (ρ.e 0) ++ (numB (ρ.e 1) ++ (numB ((ρ.ll 0).length : Nat) ++ (opsM (ρ.ll 0) ++ (numB ((ρ.ll 1).length : Nat) ++ (votesM (ρ.ll 1) ++ (numB (ρ.e 2) ++ (numB (ρ.e 3) ++ (numB (ρ.e 4) ++ (numB (ρ.e 5) ++ (numB ((ρ.ll 2).length : Nat) ++ boxesM (ρ.ll 2))))))))))) := by
  unfold bodyL
  rw [catL_den]
  simp only [bodyParts, List.flatMap_cons, List.flatMap_nil, numL_den, opsL_den, votesL_den, boxesL_den, List.append_nil]
  rfl
theorem body_len (ρ : Env) : (bodyL.den ρ).length = 72 + 40 * (ρ.ll 0).length + 24 * (ρ.ll 1).length + 8 * (ρ.ll 2).length + (ρ.ll 2).flatten.length := by
  rw [body_den]
  simp only [List.length_append, numB_len, opsM_len, votesM_len, boxesM_len]
  omega
theorem subL_len (l : List Int) (o n : Nat) : (subL l o n).length = n := by simp [subL]
theorem commit_len (ρ : Env) : (commitL.den ρ).length = (bodyL.den ρ).length + 49 := by
  rw [body_len]
  show (1 :: (catL (bodyParts ++ [.sub (.var 0) 0 32, numL (.var 6), numL (.var 7)])).den ρ).length = _
  rw [catL_den, List.flatMap_append, ← catL_den, List.length_cons, List.length_append]
  show ((bodyL.den ρ).length + _) + 1 = _
  rw [body_len]
  simp only [List.flatMap_cons, List.flatMap_nil, numL_den, L.den, List.length_append, subL_len, numB_len, List.length_nil]
/-! rules -/
theorem rule0 {ρ : Env} {b : B} (h : b.den ρ = true) : Rule.Ok ρ ⟨[], b⟩ := fun _ => h
theorem cnt_rule {ρ : Env} {i : Nat} (h : (ρ.ll i).length ≤ reachBytes) : (ltCnt (.var i)).den ρ = true := by
  show ltb ((ρ.ll i).length : Nat) 4611686018427387904 = true
  have hrb : reachBytes = 140737488351232 := rfl
  exact ltT (by omega)
def cntRules : List Rule := [⟨[], ltCnt (.var 0)⟩, ⟨[], ltCnt (.var 1)⟩, ⟨[], ltCnt (.var 2)⟩]
def lenRules : List Rule := cntRules ++ [⟨[(smallC, true)], ltLen bodyL⟩, ⟨[(smallC, true)], ltLen commitL⟩]
theorem cntRules_ok {ρ : Env} (h : CommitF ρ) : ∀ r ∈ cntRules, r.Ok ρ := all_cons (rule0 (cnt_rule h.a)) (all_cons (rule0 (cnt_rule h.b)) (all_cons (rule0 (cnt_rule h.c)) all_nil))
theorem lenRules_ok {ρ : Env} (h : CommitF ρ) : ∀ r ∈ lenRules, r.Ok ρ := by
  have key : ∀ l : L, (l.den ρ).length ≤ (bodyL.den ρ).length + 49 → Rule.Ok ρ ⟨[(smallC, true)], ltLen l⟩ := fun l hl hs => by
    have := small_sum h (hs _ (List.mem_cons_self ..))
    rw [body_len] at hl
    show ltb ((l.den ρ).length : Nat) 1073741824 = true
    exact ltT (by omega)
  exact all_app (cntRules_ok h) (all_cons (key _ (by omega)) (all_cons (key _ (by rw [commit_len]; omega)) all_nil))
theorem WireCommits_by {xs : List Value} {W : World} (hA : ArgsRd Pr W [(31, commitK)] xs) : Calls Pr 3 xs.toArray W (fun e W' => e = .returned (.bool true) ∧ Below W.heap.size W W') :=
  law_by hm cfW_ok (fuel := 100) (depth := 12) _ hA lenRules (fun ρ h => lenRules_ok (commit_facts h)) (by kernel_rfl)
/-! WireLong -/
def addE (a b : E) : E := .bin .add .i64 a b
def longN : E := addE (addE (addE (addE (addE (.lit 73) (.bin .mul .i64 (.lit 40) (.cnt (.var 0)))) (.bin .mul .i64 (.lit 24) (.cnt (.var 1)))) (.lit 32)) (.lit 16)) (.len (boxesL (.var 2)))
def longRules : List Rule := lenRules ++ [⟨[(smallC, true)], .eq (.len commitL) longN⟩, ⟨[(smallC, true)], .eq (.len bodyL) (.bin .sub .i64 longN (.lit 49))⟩]
theorem wrapS {x : Int} (h1 : -1000000000 ≤ x) (h2 : x ≤ 1000000000) : IntKind.i64.wrap x = x := wrap_id .i64 _ (by show (-9223372036854775808 : Int) ≤ _; omega) (by show _ ≤ (9223372036854775807 : Int); omega)
theorem longN_den {ρ : Env} (h : CommitF ρ) (hs : smallC.den ρ = true) : longN.den ρ = ((bodyL.den ρ).length : Nat) + 49 := by
  have := small_sum h hs
  show IntKind.i64.wrap (IntKind.i64.wrap (IntKind.i64.wrap (IntKind.i64.wrap (IntKind.i64.wrap (73 + IntKind.i64.wrap (40 * ((ρ.ll 0).length : Nat))) + IntKind.i64.wrap (24 * ((ρ.ll 1).length : Nat))) + 32) + 16) + ((boxesM (ρ.ll 2)).length : Nat)) = _
  rw [body_len, boxesM_len]
  rw [wrapS (x := 40 * ((ρ.ll 0).length : Nat)) (by omega) (by omega), wrapS (x := 24 * ((ρ.ll 1).length : Nat)) (by omega) (by omega)]
  rw [wrapS (x := 73 + 40 * ((ρ.ll 0).length : Nat)) (by omega) (by omega), wrapS (x := 73 + 40 * (((ρ.ll 0).length : Nat) : Int) + 24 * ((ρ.ll 1).length : Nat)) (by omega) (by omega)]
  rw [wrapS (x := 73 + 40 * (((ρ.ll 0).length : Nat) : Int) + 24 * ((ρ.ll 1).length : Nat) + 32) (by omega) (by omega), wrapS (x := 73 + 40 * (((ρ.ll 0).length : Nat) : Int) + 24 * ((ρ.ll 1).length : Nat) + 32 + 16) (by omega) (by omega)]
  rw [wrapS (by omega) (by omega)]
  omega
theorem longRules_ok {ρ : Env} (h : CommitF ρ) : ∀ r ∈ longRules, r.Ok ρ := by
  refine all_app (lenRules_ok h) (all_cons (fun hs => ?_) (all_cons (fun hs => ?_) all_nil))
  · have hs := hs _ (List.mem_cons_self ..)
    show eqb ((commitL.den ρ).length : Nat) (longN.den ρ) = true
    rw [longN_den h hs, commit_len, eqb_eq]; simp
  · have hs := hs _ (List.mem_cons_self ..)
    have := small_sum h hs
    show eqb ((bodyL.den ρ).length : Nat) (IntKind.i64.wrap (longN.den ρ - 49)) = true
    have hb := body_len ρ
    rw [longN_den h hs, wrapS (by omega) (by omega), eqb_eq]
    simp
theorem WireLong_by {xs : List Value} {W : World} (hA : ArgsRd Pr W [(31, commitK)] xs) : Calls Pr 5 xs.toArray W (fun e W' => e = .returned (.bool true) ∧ Below W.heap.size W W') :=
  law_by hm cfW_ok (fuel := 100) (depth := 12) _ hA longRules (fun ρ h => longRules_ok (commit_facts h)) (by kernel_rfl)
end Go.Proofs.Ytgpoomoifgfajaa.E
