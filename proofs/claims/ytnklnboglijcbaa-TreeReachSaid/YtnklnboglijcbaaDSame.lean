/- Two equal rows of numbers are one. Conditions: none. -/
import Derived.Test.YtnklnboglijcbaaDRes
namespace Go.Proofs.Ytnklnboglijcbaa.D
open Go Go.RowKit
set_option maxRecDepth 100000
set_option linter.unusedVariables false
noncomputable def b19 : Code := bodyOf Try.f19
noncomputable def l19 : Code := ofLoop (ofBlock (sq2 (sq1 (sq2 (sq2 b19)))))
theorem b19_eq : b19 = .seq (sq1 b19) (.seq (sq1 (sq2 b19)) (.seq (.seq (sq1 (sq1 (sq2 (sq2 b19)))) (.block 0 (.loop l19))) (sq2 (sq2 (sq2 b19))))) := by kernel_rfl
section
variable (l : List Int) (c0 c1 : Option Nat) (t0 t1 w0 w1 : Bool) (e0 e1 : TypeId)
abbrev A19 : V := .sl 0 0 l.length 1 t0 c0
abbrev B19 : V := .sl 1 0 l.length 1 t1 c1
def s19 : List (Nat × Ob) := [(0, ⟨.ints .i64 l, w0, e0⟩), (1, ⟨.ints .i64 l, w1, e1⟩)]
def fl19 (i : Nat) : List (Nat × V) := [(0, A19 l c0 t0), (1, B19 l c1 t1), (5, .sc (.int .i64 (Int.ofNat i)))]
noncomputable def ev19 (φ : Way) (c : Code) (fl : List (Nat × V)) : Option (Out × St) := dcode Try.prog noCalls φ noLoops 26 400 c ⟨frL' fl, 2, stL (s19 l w0 w1 e0 e1), 0, true⟩
theorem tc19 {φ : Way} {c : Code} {fl gl : List (Nat × V)} {o : Out} (h : oOut (ev19 l w0 w1 e0 e1 φ c fl) = some o) (hok : (oSt (ev19 l w0 w1 e0 e1 φ c fl)).ok = true) (hf : frHas (oSt (ev19 l w0 w1 e0 e1 φ c fl)).fr gl) (hn : (oSt (ev19 l w0 w1 e0 e1 φ c fl)).n = 2) (hs : stHas (oSt (ev19 l w0 w1 e0 e1 φ c fl)).σ (s19 l w0 w1 e0 e1)) :
    TC Try.prog 26 c (frL' fl) 2 (stL (s19 l w0 w1 e0 e1)) o (frL' gl) 2 (stL (s19 l w0 w1 e0 e1)) :=
  run_tc hm (noCalls_ok _) φ (noLoops_ok _ _ _) 400 fl (s19 l w0 w1 e0 e1) gl (s19 l w0 w1 e0 e1) h hok hf (Nat.le_of_eq hn) hs
theorem head19 : TC Try.prog 26 (sq1 b19) (frL' [(0, A19 l c0 t0), (1, B19 l c1 t1)]) 2 (stL (s19 l w0 w1 e0 e1)) .normal (frL' [(0, A19 l c0 t0), (1, B19 l c1 t1)]) 2 (stL (s19 l w0 w1 e0 e1)) :=
  tc19 l w0 w1 e0 e1 (φ := []) (by kernel_rfl) (by kernel_rfl) ⟨by kernel_rfl, by kernel_rfl, trivial⟩ (by kernel_rfl) ⟨by kernel_rfl, by kernel_rfl, trivial⟩
theorem lens19 : TC Try.prog 26 (sq1 (sq2 b19)) (frL' [(0, A19 l c0 t0), (1, B19 l c1 t1)]) 2 (stL (s19 l w0 w1 e0 e1)) .normal (frL' [(0, A19 l c0 t0), (1, B19 l c1 t1)]) 2 (stL (s19 l w0 w1 e0 e1)) := by
  have h : (oSt (ev19 l w0 w1 e0 e1 [(0, false)] (sq1 (sq2 b19)) [(0, A19 l c0 t0), (1, B19 l c1 t1)])).ok = okT [(!Nat.beq l.length l.length) == false] true := by kernel_rfl
  exact tc19 l w0 w1 e0 e1 (φ := [(0, false)]) (by kernel_rfl) (h.trans (by simp [okT])) ⟨by kernel_rfl, by kernel_rfl, trivial⟩ (by kernel_rfl) ⟨by kernel_rfl, by kernel_rfl, trivial⟩
theorem init19 : TC Try.prog 26 (sq1 (sq1 (sq2 (sq2 b19)))) (frL' [(0, A19 l c0 t0), (1, B19 l c1 t1)]) 2 (stL (s19 l w0 w1 e0 e1)) .normal (frL' (fl19 l c0 c1 t0 t1 0)) 2 (stL (s19 l w0 w1 e0 e1)) :=
  tc19 l w0 w1 e0 e1 (φ := []) (by kernel_rfl) (by kernel_rfl) ⟨by kernel_rfl, by kernel_rfl, by kernel_rfl, trivial⟩ (by kernel_rfl) ⟨by kernel_rfl, by kernel_rfl, trivial⟩
theorem out19 (i : Nat) (hi : l.length ≤ i) : TC Try.prog 26 l19 (frL' (fl19 l c0 c1 t0 t1 i)) 2 (stL (s19 l w0 w1 e0 e1)) (.exit 0) (frL' []) 2 (stL (s19 l w0 w1 e0 e1)) := by
  have h : (oSt (ev19 l w0 w1 e0 e1 [(0, false)] l19 (fl19 l c0 c1 t0 t1 i))).ok = okT [Nat.blt i l.length == false] true := by kernel_rfl
  exact tc19 l w0 w1 e0 e1 (φ := [(0, false)]) (by kernel_rfl) (h.trans (by rw [blt_no hi]; rfl)) trivial (by kernel_rfl) ⟨by kernel_rfl, by kernel_rfl, trivial⟩
theorem more19 (i : Nat) (hi : i < l.length) (hb : l.length < 4294967296) : TC Try.prog 26 l19 (frL' (fl19 l c0 c1 t0 t1 i)) 2 (stL (s19 l w0 w1 e0 e1)) .normal (frL' (fl19 l c0 c1 t0 t1 (i + 1))) 2 (stL (s19 l w0 w1 e0 e1)) := by
  have h : (oSt (ev19 l w0 w1 e0 e1 [(0, true), (1, false)] l19 (fl19 l c0 c1 t0 t1 i))).ok = okT [Nat.blt i l.length == true, Nat.blt i l.length, Nat.blt (0 + i * 1) l.length, Nat.blt i l.length, Nat.blt (0 + i * 1) l.length, (!eqb (l.getD (0 + i * 1) 0) (l.getD (0 + i * 1) 0)) == false] true := by kernel_rfl
  have h5 : (oSt (ev19 l w0 w1 e0 e1 [(0, true), (1, false)] l19 (fl19 l c0 c1 t0 t1 i))).fr 5 = .sc (.int .i64 (IntKind.wrap .i64 (Int.ofNat i + 1))) := by kernel_rfl
  have hw : IntKind.wrap .i64 (Int.ofNat i + 1) = Int.ofNat (i + 1) := by
    rw [IntKind.wrap_i64]
    simp only [Int.ofNat_eq_natCast]
    omega
  rw [hw] at h5
  exact tc19 l w0 w1 e0 e1 (φ := [(0, true), (1, false)]) (by kernel_rfl) (h.trans (okT_true _ _ rfl (by simp [blt_ok hi, eqb_self]))) ⟨by kernel_rfl, by kernel_rfl, h5, trivial⟩ (by kernel_rfl) ⟨by kernel_rfl, by kernel_rfl, trivial⟩
theorem loop19 (hb : l.length < 4294967296) : ∀ (d i : Nat), i + d = l.length → TR Try.prog 26 l19 (d + 1) (frL' (fl19 l c0 c1 t0 t1 i)) 2 (stL (s19 l w0 w1 e0 e1)) (.exit 0) (frL' []) 2 (stL (s19 l w0 w1 e0 e1))
  | 0, i, h => TR.out (out19 l c0 c1 t0 t1 w0 w1 e0 e1 i (by omega)) (by simp)
  | d + 1, i, h => TR.more (more19 l c0 c1 t0 t1 w0 w1 e0 e1 i (by omega) hb) (loop19 hb d (i + 1) (by omega))
theorem tail19 : TC Try.prog 26 (sq2 (sq2 (sq2 b19))) (frL' []) 2 (stL (s19 l w0 w1 e0 e1)) .ret (frL' [(4, .sc (.bool true))]) 2 (stL (s19 l w0 w1 e0 e1)) :=
  tc19 l w0 w1 e0 e1 (φ := []) (by kernel_rfl) (by kernel_rfl) ⟨by kernel_rfl, trivial⟩ (by kernel_rfl) ⟨by kernel_rfl, by kernel_rfl, trivial⟩
theorem same_spec (hb : l.length < 4294967296) : Spec Try.prog 19 [A19 l c0 t0, B19 l c1 t1] 2 (stL (s19 l w0 w1 e0 e1)) (.sc (.bool true)) 2 (stL (s19 l w0 w1 e0 e1)) := by
  refine Spec.enter (c := b19) Try.func19 (by kernel_rfl) (by kernel_rfl) (Nat.le_of_ble_eq_true (by kernel_rfl)) ?_ (.inr rfl) (fr' := frL' [(4, .sc (.bool true))]) (by kernel_rfl)
  have hpre : Fr.le (frL' [(0, A19 l c0 t0), (1, B19 l c1 t1)]) (fr0 [A19 l c0 t0, B19 l c1 t1]) := frHas.le ⟨rfl, rfl, trivial⟩
  refine TC.pre ?_ hpre
  rw [b19_eq]
  exact TC.seq (head19 l c0 c1 t0 t1 w0 w1 e0 e1) (TC.seq (lens19 l c0 c1 t0 t1 w0 w1 e0 e1) (TC.seq (TC.seq (init19 l c0 c1 t0 t1 w0 w1 e0 e1) (TC.block (TC.loop (loop19 l c0 c1 t0 t1 w0 w1 e0 e1 hb l.length 0 (by omega))) (.inr rfl))) (tail19 l w0 w1 e0 e1)))
end
/-- the table's entry: rows that are equal. -/
def sameT : CT := fun g args n σ =>
  if Nat.beq g 19 && Nat.beq n 2 then match args with
    | [.sl 0 0 la 1 t0 c0, .sl 1 0 lb 1 t1 c1] => match σ 0, σ 1 with
      | some ⟨.ints .i64 l1, w0, e0⟩, some ⟨.ints .i64 l2, w1, e1⟩ => some ((.sc (.bool true), [], []), Nat.beq la l1.length && Nat.beq lb l2.length && eqL l1 l2 && Nat.blt l1.length 4294967296)
      | _, _ => none
    | _ => none
  else none
theorem sameT_ok : CTOk Try.prog sameT := by
  intro g args n σ r news muts h
  unfold sameT at h
  split at h
  · rename_i hg
    simp only [Bool.and_eq_true] at hg
    obtain rfl := Nat.eq_of_beq_eq_true hg.1
    obtain rfl := Nat.eq_of_beq_eq_true hg.2
    split at h
    · split at h
      · rename_i l1 w0 e0 l2 w1 e1 h0 h1
        simp only [Option.some.injEq, Prod.mk.injEq, Bool.and_eq_true] at h
        obtain ⟨⟨rfl, rfl, rfl⟩, ⟨⟨ha, hb⟩, hc⟩, hd⟩ := h
        obtain rfl := Nat.eq_of_beq_eq_true ha
        obtain rfl := Nat.eq_of_beq_eq_true hb
        obtain rfl := eqL_ok.1 hc
        rw [ext_nil]
        exact (same_spec l1 _ _ _ _ w0 w1 e0 e1 (Nat.le_of_ble_eq_true hd)).kept rfl (Sto.le.refl _) (stHas.le ⟨h0, h1, trivial⟩)
      · cases h
    · cases h
  · cases h

end Go.Proofs.Ytnklnboglijcbaa.D
