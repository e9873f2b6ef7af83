/- A law's arguments, opened; aggregates that are equal to themselves. Plain Lean over the kit's model; no program. -/
import Derived.Test.YtnklnboglijcbaaD12
import GoSem.ClaimWide
namespace Go.Proofs.Ytnklnboglijcbaa.D
open Go Go.RowKit
set_option linter.unusedVariables false

theorem open_num {P : Program} {w : World} {r : Reach} {b t : Nat} {k : IntKind} {v : Value} (ht : P.underlying t = some (.int k)) (h : Value.okWide P w r b t v) : ∃ n, v = .int k n ∧ k.has n := by
  simp only [Value.okWide, ht, Cell.okWide] at h
  cases v <;> simp [Cell.ok, ht] at h
  obtain ⟨rfl, h⟩ := h
  exact ⟨_, rfl, h⟩
theorem open_flag {P : Program} {w : World} {r : Reach} {b t : Nat} {v : Value} (ht : P.underlying t = some .bool) (h : Value.okWide P w r b t v) : ∃ n, v = .bool n := by
  simp only [Value.okWide, ht, Cell.okWide] at h
  cases v <;> simp [Cell.ok, ht] at h
  exact ⟨_, rfl⟩

/-- the cells of an aggregate of numbers of one kind. -/
theorem open_nums {P : Program} {w : World} {r : Reach} {b t N : Nat} {k : IntKind} {v : Value} (hag : isAg (P.underlying t) = true) (hN : P.cellsOf t = N) (hc : (match P.cellTypes P.depth t with
      | some ts => ts.length == N && Nat.blt 0 N && ts.all fun u => match P.underlying u with | some (.int k') => decide (k' = k) | _ => false
      | none => false) = true) (h : Value.okWide P w r b t v) :
    ∃ z : Nat → Int, v = .agg ((List.range N).map fun i => .int k (z i)).toArray ∧ ∀ i, i < N → k.has (z i) := by
  have h' : ∃ cs, v = .agg cs ∧ cs.size = P.cellsOf t ∧ Row.okWide P w r b t cs := by
    unfold Value.okWide at h
    cases hu : P.underlying t with
    | none => rw [hu] at hag; cases hag
    | some d => rw [hu] at h hag; cases d <;> first | exact h | cases hag
  obtain ⟨cs, rfl, hsz, ts, hts, _, hall⟩ := h'
  rw [hts] at hc
  simp only [Bool.and_eq_true, beq_iff_eq, List.all_eq_true] at hc
  obtain ⟨⟨hl, hpos⟩, hk⟩ := hc
  have cell : ∀ i, i < N → ∃ n, cs[i]? = some (.int k n) ∧ k.has n := by
    intro i hi
    have hi' : i < cs.size := by omega
    obtain ⟨u, hu, hok⟩ := hall i cs[i] (by simp [hi'])
    have hm := hk u (List.mem_of_getElem? hu)
    split at hm
    · rename_i k' hku
      have : k' = k := by simpa using hm
      subst this
      have hok' : ∃ n, cs[i] = .int k' n ∧ k'.has n := by
        revert hok
        simp only [Cell.okWide, hku]
        cases cs[i] <;> simp [Cell.ok, hku]
        intro e hn; subst e; exact ⟨_, ⟨rfl, rfl⟩, hn⟩
      obtain ⟨n, hn, hn2⟩ := hok'
      exact ⟨n, by simp [hi', hn], hn2⟩
    · cases hm
  refine ⟨fun i => match cs[i]? with | some (.int _ n) => n | _ => 0, ?_, ?_⟩
  · congr 1
    apply Array.ext'
    apply List.ext_getElem?
    intro i
    by_cases hi : i < N
    · obtain ⟨n, hn, _⟩ := cell i hi
      have hn' : cs.toList[i]? = some (.int k n) := by simpa using hn
      rw [hn']
      simp [hi, hn]
    · rw [List.getElem?_eq_none (by simp; omega), List.getElem?_eq_none (by simp; omega)]
  · intro i hi
    obtain ⟨n, hn, hn2⟩ := cell i hi
    simp only [hn]; exact hn2

/-- numbers of one kind, as a row of values. -/
def nums' (k : IntKind) (N : Nat) (z : Nat → Int) : List V := (List.range N).map fun i => .sc (.int k (z i))
theorem R_nums (β : Bt) (k : IntKind) (N : Nat) (z : Nat → Int) : R β (.agg (nums' k N z)) (.agg ((List.range N).map fun i => .int k (z i)).toArray) :=
  ⟨_, rfl, by simpa [nums'] using F2.map (r := R1 β) _ _ (List.range N) fun i _ => (show R1 β (.sc (.int k (z i))) (.int k (z i)) from ⟨rfl, rfl⟩)⟩

/-! ### equal to itself -/
theorem eqb_self (a : Int) : eqb a a = true := by rw [eqb_eq]; simp
theorem eqT_self {P : Program} : ∀ (d t : Nat) (xs : List Value) (r : Bool), eqT P d t xs xs = some r → r = true
  | 0, _, _, _, h => by cases h
  | d + 1, t, xs, r, h => by
    have ih := eqT_self (P := P) d
    unfold eqT at h
    split at h
    · rcases xs with _ | ⟨x, _ | ⟨y, l⟩⟩
      · cases h
      · cases x <;> first | (cases h; done) | (simp [eqb_self] at h; rw [← h])
      · cases x <;> cases h
    · rcases xs with _ | ⟨x, _ | ⟨y, l⟩⟩
      · cases h
      · cases x <;> first | (cases h; done) | (simp at h; rw [← h])
      · cases x <;> cases h
    · rcases xs with _ | ⟨x, _ | ⟨y, l⟩⟩
      · cases h
      · cases x <;> first | (cases h; done) | (simp at h; rw [← h])
      · cases x <;> cases h
    · split at h
      · cases h
      · rename_i fs _ _
        generalize fs.toList = l at h
        induction l generalizing r with
        | nil => cases h; rfl
        | cons f l ihl =>
          unfold eqFs at h
          split at h
          · exact ihl r h
          · split at h
            · split at h
              · rename_i a b ha hb; cases h; rw [ih _ _ _ ha, ihl b hb]; rfl
              · cases h
            · cases h
    · split at h
      · rename_i k hk
        generalize List.range _ = l at h
        induction l generalizing r with
        | nil => cases h; rfl
        | cons j l ihl =>
          unfold eqIs at h
          split at h
          · rename_i a b ha hb; cases h; rw [ih _ _ _ ha, ihl b hb]; rfl
          · cases h
      · cases h
    · cases h

/-- the test of a thing against itself. -/
def selfEq (P : Program) (t : TypeId) (xs : List Value) : Bool := (eqT P 100 t xs xs).getD false
theorem selfEq_true {P : Program} {t : TypeId} {xs : List Value} (h : (eqT P 100 t xs xs).isSome = true) : selfEq P t xs = true := by
  obtain ⟨r, hr⟩ := Option.isSome_iff_exists.1 h
  unfold selfEq
  rw [hr, eqT_self 100 t xs r hr]; rfl

end Go.Proofs.Ytnklnboglijcbaa.D
