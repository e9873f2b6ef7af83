/- By which nodes all below a node are reached: what both packages' functions give. Conditions: none. -/
import Derived.Test.YtnklnboglijcbaaProg
import Derived.Test.YtnklnboglijcbaaD16
import Derived.KernelRfl
namespace Go.Proofs.Ytnklnboglijcbaa.D
open Go Go.RowKit
set_option maxRecDepth 100000
set_option linter.unusedVariables false
theorem hm : Try.prog.follows .mixedOrders = true := by kernel_rfl
noncomputable def cl0 : CT := pure1 (run Try.prog 200 8)
theorem cl0_ok : CTOk Try.prog cl0 := pure1_ok (run_ok hm _ _)
abbrev nilV : V := .sc (.slice none 0 0)
def argsR (z : Nat → Int) (j : Int) : List V := [.agg (nums' .i64 31 z), .sc (.int .i64 j)]
theorem argsR_bare (z : Nat → Int) (j : Int) : (argsR z j).all V.bare = true := by
  have h : V.bare (.agg (nums' .i64 31 z)) = true := nums_bare _ _ _
  show (V.bare (.agg (nums' .i64 31 z)) && (true && true)) = true
  rw [h]; rfl
/-- a node's own key stands for it; else what is below it. -/
def nodeR (k : Int) (j : Int) (below : List Int) : List Int := bif !eqb k 0 then [j] else below
def r0 (z : Nat → Int) : List Int := nodeR (z 1) 0 []
def r2 (z : Nat → Int) : List Int := nodeR (z 3) 2 []
def r4 (z : Nat → Int) : List Int := nodeR (z 5) 4 []
def r6 (z : Nat → Int) : List Int := nodeR (z 7) 6 []
def r8 (z : Nat → Int) : List Int := nodeR (z 9) 8 []
def r10 (z : Nat → Int) : List Int := nodeR (z 11) 10 []
def r12 (z : Nat → Int) : List Int := nodeR (z 13) 12 []
def r14 (z : Nat → Int) : List Int := nodeR (z 15) 14 []
def r1 (z : Nat → Int) : List Int := nodeR (z 17) 1 (r0 z ++ r2 z)
def r5 (z : Nat → Int) : List Int := nodeR (z 21) 5 (r4 z ++ r6 z)
def r9 (z : Nat → Int) : List Int := nodeR (z 25) 9 (r8 z ++ r10 z)
def r13 (z : Nat → Int) : List Int := nodeR (z 29) 13 (r12 z ++ r14 z)
def r3 (z : Nat → Int) : List Int := nodeR (z 19) 3 (r1 z ++ r5 z)
def r11 (z : Nat → Int) : List Int := nodeR (z 27) 11 (r9 z ++ r13 z)
def r7 (z : Nat → Int) : List Int := nodeR (z 23) 7 (r3 z ++ r11 z)
def resL (z : Nat → Int) : Nat → List Int
  | 0 => r0 z
  | 1 => r1 z
  | 2 => r2 z
  | 3 => r3 z
  | 4 => r4 z
  | 5 => r5 z
  | 6 => r6 z
  | 7 => r7 z
  | 8 => r8 z
  | 9 => r9 z
  | 10 => r10 z
  | 11 => r11 z
  | 12 => r12 z
  | 13 => r13 z
  | 14 => r14 z
  | _ => []
theorem nodeR_true {k j : Int} {l : List Int} (h : eqb k 0 = false) : nodeR k j l = [j] := by unfold nodeR; rw [h]; rfl
theorem nodeR_false {k j : Int} {l : List Int} (h : eqb k 0 = true) : nodeR k j l = l := by unfold nodeR; rw [h]; rfl
theorem nodeR_len {k j : Int} {l : List Int} {m : Nat} (h : l.length ≤ m) (hm : 1 ≤ m) : (nodeR k j l).length ≤ m := by unfold nodeR; cases eqb k 0 <;> simp <;> omega
theorem app_len {a b : List Int} {m n : Nat} (ha : a.length ≤ m) (hb : b.length ≤ n) : (a ++ b).length ≤ m + n := by rw [List.length_append]; omega
theorem len0 (z : Nat → Int) : (r0 z).length ≤ 1 := nodeR_len (Nat.zero_le 1) (Nat.le_refl 1)
theorem len2 (z : Nat → Int) : (r2 z).length ≤ 1 := nodeR_len (Nat.zero_le 1) (Nat.le_refl 1)
theorem len4 (z : Nat → Int) : (r4 z).length ≤ 1 := nodeR_len (Nat.zero_le 1) (Nat.le_refl 1)
theorem len6 (z : Nat → Int) : (r6 z).length ≤ 1 := nodeR_len (Nat.zero_le 1) (Nat.le_refl 1)
theorem len8 (z : Nat → Int) : (r8 z).length ≤ 1 := nodeR_len (Nat.zero_le 1) (Nat.le_refl 1)
theorem len10 (z : Nat → Int) : (r10 z).length ≤ 1 := nodeR_len (Nat.zero_le 1) (Nat.le_refl 1)
theorem len12 (z : Nat → Int) : (r12 z).length ≤ 1 := nodeR_len (Nat.zero_le 1) (Nat.le_refl 1)
theorem len14 (z : Nat → Int) : (r14 z).length ≤ 1 := nodeR_len (Nat.zero_le 1) (Nat.le_refl 1)
theorem len1 (z : Nat → Int) : (r1 z).length ≤ 2 := nodeR_len (app_len (len0 z) (len2 z)) (by omega)
theorem len5 (z : Nat → Int) : (r5 z).length ≤ 2 := nodeR_len (app_len (len4 z) (len6 z)) (by omega)
theorem len9 (z : Nat → Int) : (r9 z).length ≤ 2 := nodeR_len (app_len (len8 z) (len10 z)) (by omega)
theorem len13 (z : Nat → Int) : (r13 z).length ≤ 2 := nodeR_len (app_len (len12 z) (len14 z)) (by omega)
theorem len3 (z : Nat → Int) : (r3 z).length ≤ 4 := nodeR_len (app_len (len1 z) (len5 z)) (by omega)
theorem len11 (z : Nat → Int) : (r11 z).length ≤ 4 := nodeR_len (app_len (len9 z) (len13 z)) (by omega)
theorem len7 (z : Nat → Int) : (r7 z).length ≤ 8 := nodeR_len (app_len (len3 z) (len11 z)) (by omega)

structure SpecR (g : Nat) (z : Nat → Int) (j : Nat) (L : List Int) : Prop where
  nil : L = [] → ∀ n, Spec Try.prog g (argsR z (Int.ofNat j)) n no nilV n no
  sl : L ≠ [] → ∀ n, Spec Try.prog g (argsR z (Int.ofNat j)) n no (.sl n 0 L.length 1 true none) (n + 1) (no.put n ⟨.ints .i64 L, true, 3⟩)
def zOf (l : List Int) : Nat → Int := fun i => l.getD i 0
def resT (g0 : Nat) (js nils : List Nat) : CT := fun g args n σ =>
  if Nat.beq g g0 then match args with
    | [.agg cs, .sc (.int .i64 (Int.ofNat j))] => if js.contains j then match intsOf .i64 cs with
      | some l => if Nat.beq l.length 31 then
          (if nils.contains j then some ((nilV, [], []), emp (resL (zOf l) j)) else some ((.sl n 0 (resL (zOf l) j).length 1 true none, [⟨.ints .i64 (resL (zOf l) j), true, 3⟩], []), !emp (resL (zOf l) j))) else none
      | none => none
      else none
    | _ => none
  else none
theorem resT_ok {g0 : Nat} {js nils : List Nat} (H : ∀ j, js.contains j = true → ∀ z, SpecR g0 z j (resL z j)) : CTOk Try.prog (resT g0 js nils) := by
  intro g args n σ r news muts h
  unfold resT at h
  split at h
  · rename_i hg
    obtain rfl := Nat.eq_of_beq_eq_true hg
    split at h
    · rename_i cs j
      split at h
      · rename_i hj
        split at h
        · rename_i l hl
          split at h
          · rename_i h31
            have hcs : cs = nums' .i64 31 (zOf l) := by rw [intsOf_ok hl, nums_of, Nat.eq_of_beq_eq_true h31]; rfl
            have hs := H j hj (zOf l)
            subst hcs
            split at h
            · simp only [Option.some.injEq, Prod.mk.injEq] at h
              obtain ⟨⟨rfl, rfl, rfl⟩, he⟩ := h
              rw [ext_nil]
              exact (hs.nil (emp_ok.1 he) n).any σ
            · simp only [Option.some.injEq, Prod.mk.injEq, Bool.not_eq_true'] at h
              obtain ⟨⟨rfl, rfl, rfl⟩, he⟩ := h
              exact (hs.sl (emp_no.1 he) n).over1 σ
          · cases h
        · cases h
      · cases h
    · cases h
  · cases h
theorem mkR {g : Nat} {z : Nat → Int} {j : Nat} {L : List Int} (h : (L = [] → Spec Try.prog g (argsR z (Int.ofNat j)) 0 no nilV 0 no) ∧ (L ≠ [] → ∃ id cap m' σ', Spec Try.prog g (argsR z (Int.ofNat j)) 0 no (.sl id 0 L.length 1 true cap) m' σ' ∧ σ' id = some ⟨.ints .i64 L, true, 3⟩)) : SpecR g z j L :=
  ⟨fun e n => (h.1 e).pure (argsR_bare _ _) rfl n, fun e n => by
    obtain ⟨id, cap, m', σ', h1, h2⟩ := h.2 e
    exact (h1.oneInts (argsR_bare _ _) h2 n).room⟩
theorem takeAll (l : List Int) : l.take (l.length * 1) = l := by simp
theorem dropAll (l : List Int) : (l.drop 0).take (l.length * 1) = l := by simp

theorem n20_0 (z : Nat → Int) : SpecR 20 z 0 (resL z 0) := by
  have eL : resL z 0 = nodeR (z 1) 0 [] := rfl
  cases hk : eqb (z 1) 0 with
  | true =>
    rw [eL, nodeR_false hk]
    have h1 : rV (dfun Try.prog cl0 [(1, false)] noLoops 400 Try.f20 (argsR z 0) 0 no) = nilV := by kernel_rfl
    have h2 : rOk (dfun Try.prog cl0 [(1, false)] noLoops 400 Try.f20 (argsR z 0) 0 no) = okT [(!eqb (z 1) 0) == false] true := by kernel_rfl
    have hs := run_spec hm cl0_ok (noLoops_ok _ _ _) Try.func20 (by kernel_rfl) (h2.trans (by rw [hk]; rfl))
    rw [h1] at hs
    exact mkR ⟨fun _ => hs.pure (argsR_bare _ _) rfl 0, fun e => (e rfl).elim⟩
  | false =>
    rw [eL, nodeR_true hk]
    have h1 : rV (dfun Try.prog cl0 [(1, true)] noLoops 400 Try.f20 (argsR z 0) 0 no) = .sl 1 0 1 1 true (some 1) := by kernel_rfl
    have h2 : rOk (dfun Try.prog cl0 [(1, true)] noLoops 400 Try.f20 (argsR z 0) 0 no) = okT [(!eqb (z 1) 0) == true] true := by kernel_rfl
    have h3 : rS (dfun Try.prog cl0 [(1, true)] noLoops 400 Try.f20 (argsR z 0) 0 no) 1 = some ⟨.ints .i64 [0], true, 3⟩ := by kernel_rfl
    have hs := run_spec hm cl0_ok (noLoops_ok _ _ _) Try.func20 (by kernel_rfl) (h2.trans (by rw [hk]; rfl))
    rw [h1] at hs
    exact mkR ⟨fun e => (by cases e), fun _ => ⟨1, _, _, _, hs, h3⟩⟩
theorem n20_2 (z : Nat → Int) : SpecR 20 z 2 (resL z 2) := by
  have eL : resL z 2 = nodeR (z 3) 2 [] := rfl
  cases hk : eqb (z 3) 0 with
  | true =>
    rw [eL, nodeR_false hk]
    have h1 : rV (dfun Try.prog cl0 [(1, false)] noLoops 400 Try.f20 (argsR z 2) 0 no) = nilV := by kernel_rfl
    have h2 : rOk (dfun Try.prog cl0 [(1, false)] noLoops 400 Try.f20 (argsR z 2) 0 no) = okT [(!eqb (z 3) 0) == false] true := by kernel_rfl
    have hs := run_spec hm cl0_ok (noLoops_ok _ _ _) Try.func20 (by kernel_rfl) (h2.trans (by rw [hk]; rfl))
    rw [h1] at hs
    exact mkR ⟨fun _ => hs.pure (argsR_bare _ _) rfl 0, fun e => (e rfl).elim⟩
  | false =>
    rw [eL, nodeR_true hk]
    have h1 : rV (dfun Try.prog cl0 [(1, true)] noLoops 400 Try.f20 (argsR z 2) 0 no) = .sl 1 0 1 1 true (some 1) := by kernel_rfl
    have h2 : rOk (dfun Try.prog cl0 [(1, true)] noLoops 400 Try.f20 (argsR z 2) 0 no) = okT [(!eqb (z 3) 0) == true] true := by kernel_rfl
    have h3 : rS (dfun Try.prog cl0 [(1, true)] noLoops 400 Try.f20 (argsR z 2) 0 no) 1 = some ⟨.ints .i64 [2], true, 3⟩ := by kernel_rfl
    have hs := run_spec hm cl0_ok (noLoops_ok _ _ _) Try.func20 (by kernel_rfl) (h2.trans (by rw [hk]; rfl))
    rw [h1] at hs
    exact mkR ⟨fun e => (by cases e), fun _ => ⟨1, _, _, _, hs, h3⟩⟩
theorem n20_4 (z : Nat → Int) : SpecR 20 z 4 (resL z 4) := by
  have eL : resL z 4 = nodeR (z 5) 4 [] := rfl
  cases hk : eqb (z 5) 0 with
  | true =>
    rw [eL, nodeR_false hk]
    have h1 : rV (dfun Try.prog cl0 [(1, false)] noLoops 400 Try.f20 (argsR z 4) 0 no) = nilV := by kernel_rfl
    have h2 : rOk (dfun Try.prog cl0 [(1, false)] noLoops 400 Try.f20 (argsR z 4) 0 no) = okT [(!eqb (z 5) 0) == false] true := by kernel_rfl
    have hs := run_spec hm cl0_ok (noLoops_ok _ _ _) Try.func20 (by kernel_rfl) (h2.trans (by rw [hk]; rfl))
    rw [h1] at hs
    exact mkR ⟨fun _ => hs.pure (argsR_bare _ _) rfl 0, fun e => (e rfl).elim⟩
  | false =>
    rw [eL, nodeR_true hk]
    have h1 : rV (dfun Try.prog cl0 [(1, true)] noLoops 400 Try.f20 (argsR z 4) 0 no) = .sl 1 0 1 1 true (some 1) := by kernel_rfl
    have h2 : rOk (dfun Try.prog cl0 [(1, true)] noLoops 400 Try.f20 (argsR z 4) 0 no) = okT [(!eqb (z 5) 0) == true] true := by kernel_rfl
    have h3 : rS (dfun Try.prog cl0 [(1, true)] noLoops 400 Try.f20 (argsR z 4) 0 no) 1 = some ⟨.ints .i64 [4], true, 3⟩ := by kernel_rfl
    have hs := run_spec hm cl0_ok (noLoops_ok _ _ _) Try.func20 (by kernel_rfl) (h2.trans (by rw [hk]; rfl))
    rw [h1] at hs
    exact mkR ⟨fun e => (by cases e), fun _ => ⟨1, _, _, _, hs, h3⟩⟩
theorem n20_6 (z : Nat → Int) : SpecR 20 z 6 (resL z 6) := by
  have eL : resL z 6 = nodeR (z 7) 6 [] := rfl
  cases hk : eqb (z 7) 0 with
  | true =>
    rw [eL, nodeR_false hk]
    have h1 : rV (dfun Try.prog cl0 [(1, false)] noLoops 400 Try.f20 (argsR z 6) 0 no) = nilV := by kernel_rfl
    have h2 : rOk (dfun Try.prog cl0 [(1, false)] noLoops 400 Try.f20 (argsR z 6) 0 no) = okT [(!eqb (z 7) 0) == false] true := by kernel_rfl
    have hs := run_spec hm cl0_ok (noLoops_ok _ _ _) Try.func20 (by kernel_rfl) (h2.trans (by rw [hk]; rfl))
    rw [h1] at hs
    exact mkR ⟨fun _ => hs.pure (argsR_bare _ _) rfl 0, fun e => (e rfl).elim⟩
  | false =>
    rw [eL, nodeR_true hk]
    have h1 : rV (dfun Try.prog cl0 [(1, true)] noLoops 400 Try.f20 (argsR z 6) 0 no) = .sl 1 0 1 1 true (some 1) := by kernel_rfl
    have h2 : rOk (dfun Try.prog cl0 [(1, true)] noLoops 400 Try.f20 (argsR z 6) 0 no) = okT [(!eqb (z 7) 0) == true] true := by kernel_rfl
    have h3 : rS (dfun Try.prog cl0 [(1, true)] noLoops 400 Try.f20 (argsR z 6) 0 no) 1 = some ⟨.ints .i64 [6], true, 3⟩ := by kernel_rfl
    have hs := run_spec hm cl0_ok (noLoops_ok _ _ _) Try.func20 (by kernel_rfl) (h2.trans (by rw [hk]; rfl))
    rw [h1] at hs
    exact mkR ⟨fun e => (by cases e), fun _ => ⟨1, _, _, _, hs, h3⟩⟩
theorem n20_8 (z : Nat → Int) : SpecR 20 z 8 (resL z 8) := by
  have eL : resL z 8 = nodeR (z 9) 8 [] := rfl
  cases hk : eqb (z 9) 0 with
  | true =>
    rw [eL, nodeR_false hk]
    have h1 : rV (dfun Try.prog cl0 [(1, false)] noLoops 400 Try.f20 (argsR z 8) 0 no) = nilV := by kernel_rfl
    have h2 : rOk (dfun Try.prog cl0 [(1, false)] noLoops 400 Try.f20 (argsR z 8) 0 no) = okT [(!eqb (z 9) 0) == false] true := by kernel_rfl
    have hs := run_spec hm cl0_ok (noLoops_ok _ _ _) Try.func20 (by kernel_rfl) (h2.trans (by rw [hk]; rfl))
    rw [h1] at hs
    exact mkR ⟨fun _ => hs.pure (argsR_bare _ _) rfl 0, fun e => (e rfl).elim⟩
  | false =>
    rw [eL, nodeR_true hk]
    have h1 : rV (dfun Try.prog cl0 [(1, true)] noLoops 400 Try.f20 (argsR z 8) 0 no) = .sl 1 0 1 1 true (some 1) := by kernel_rfl
    have h2 : rOk (dfun Try.prog cl0 [(1, true)] noLoops 400 Try.f20 (argsR z 8) 0 no) = okT [(!eqb (z 9) 0) == true] true := by kernel_rfl
    have h3 : rS (dfun Try.prog cl0 [(1, true)] noLoops 400 Try.f20 (argsR z 8) 0 no) 1 = some ⟨.ints .i64 [8], true, 3⟩ := by kernel_rfl
    have hs := run_spec hm cl0_ok (noLoops_ok _ _ _) Try.func20 (by kernel_rfl) (h2.trans (by rw [hk]; rfl))
    rw [h1] at hs
    exact mkR ⟨fun e => (by cases e), fun _ => ⟨1, _, _, _, hs, h3⟩⟩
theorem n20_10 (z : Nat → Int) : SpecR 20 z 10 (resL z 10) := by
  have eL : resL z 10 = nodeR (z 11) 10 [] := rfl
  cases hk : eqb (z 11) 0 with
  | true =>
    rw [eL, nodeR_false hk]
    have h1 : rV (dfun Try.prog cl0 [(1, false)] noLoops 400 Try.f20 (argsR z 10) 0 no) = nilV := by kernel_rfl
    have h2 : rOk (dfun Try.prog cl0 [(1, false)] noLoops 400 Try.f20 (argsR z 10) 0 no) = okT [(!eqb (z 11) 0) == false] true := by kernel_rfl
    have hs := run_spec hm cl0_ok (noLoops_ok _ _ _) Try.func20 (by kernel_rfl) (h2.trans (by rw [hk]; rfl))
    rw [h1] at hs
    exact mkR ⟨fun _ => hs.pure (argsR_bare _ _) rfl 0, fun e => (e rfl).elim⟩
  | false =>
    rw [eL, nodeR_true hk]
    have h1 : rV (dfun Try.prog cl0 [(1, true)] noLoops 400 Try.f20 (argsR z 10) 0 no) = .sl 1 0 1 1 true (some 1) := by kernel_rfl
    have h2 : rOk (dfun Try.prog cl0 [(1, true)] noLoops 400 Try.f20 (argsR z 10) 0 no) = okT [(!eqb (z 11) 0) == true] true := by kernel_rfl
    have h3 : rS (dfun Try.prog cl0 [(1, true)] noLoops 400 Try.f20 (argsR z 10) 0 no) 1 = some ⟨.ints .i64 [10], true, 3⟩ := by kernel_rfl
    have hs := run_spec hm cl0_ok (noLoops_ok _ _ _) Try.func20 (by kernel_rfl) (h2.trans (by rw [hk]; rfl))
    rw [h1] at hs
    exact mkR ⟨fun e => (by cases e), fun _ => ⟨1, _, _, _, hs, h3⟩⟩
theorem n20_12 (z : Nat → Int) : SpecR 20 z 12 (resL z 12) := by
  have eL : resL z 12 = nodeR (z 13) 12 [] := rfl
  cases hk : eqb (z 13) 0 with
  | true =>
    rw [eL, nodeR_false hk]
    have h1 : rV (dfun Try.prog cl0 [(1, false)] noLoops 400 Try.f20 (argsR z 12) 0 no) = nilV := by kernel_rfl
    have h2 : rOk (dfun Try.prog cl0 [(1, false)] noLoops 400 Try.f20 (argsR z 12) 0 no) = okT [(!eqb (z 13) 0) == false] true := by kernel_rfl
    have hs := run_spec hm cl0_ok (noLoops_ok _ _ _) Try.func20 (by kernel_rfl) (h2.trans (by rw [hk]; rfl))
    rw [h1] at hs
    exact mkR ⟨fun _ => hs.pure (argsR_bare _ _) rfl 0, fun e => (e rfl).elim⟩
  | false =>
    rw [eL, nodeR_true hk]
    have h1 : rV (dfun Try.prog cl0 [(1, true)] noLoops 400 Try.f20 (argsR z 12) 0 no) = .sl 1 0 1 1 true (some 1) := by kernel_rfl
    have h2 : rOk (dfun Try.prog cl0 [(1, true)] noLoops 400 Try.f20 (argsR z 12) 0 no) = okT [(!eqb (z 13) 0) == true] true := by kernel_rfl
    have h3 : rS (dfun Try.prog cl0 [(1, true)] noLoops 400 Try.f20 (argsR z 12) 0 no) 1 = some ⟨.ints .i64 [12], true, 3⟩ := by kernel_rfl
    have hs := run_spec hm cl0_ok (noLoops_ok _ _ _) Try.func20 (by kernel_rfl) (h2.trans (by rw [hk]; rfl))
    rw [h1] at hs
    exact mkR ⟨fun e => (by cases e), fun _ => ⟨1, _, _, _, hs, h3⟩⟩
theorem n20_14 (z : Nat → Int) : SpecR 20 z 14 (resL z 14) := by
  have eL : resL z 14 = nodeR (z 15) 14 [] := rfl
  cases hk : eqb (z 15) 0 with
  | true =>
    rw [eL, nodeR_false hk]
    have h1 : rV (dfun Try.prog cl0 [(1, false)] noLoops 400 Try.f20 (argsR z 14) 0 no) = nilV := by kernel_rfl
    have h2 : rOk (dfun Try.prog cl0 [(1, false)] noLoops 400 Try.f20 (argsR z 14) 0 no) = okT [(!eqb (z 15) 0) == false] true := by kernel_rfl
    have hs := run_spec hm cl0_ok (noLoops_ok _ _ _) Try.func20 (by kernel_rfl) (h2.trans (by rw [hk]; rfl))
    rw [h1] at hs
    exact mkR ⟨fun _ => hs.pure (argsR_bare _ _) rfl 0, fun e => (e rfl).elim⟩
  | false =>
    rw [eL, nodeR_true hk]
    have h1 : rV (dfun Try.prog cl0 [(1, true)] noLoops 400 Try.f20 (argsR z 14) 0 no) = .sl 1 0 1 1 true (some 1) := by kernel_rfl
    have h2 : rOk (dfun Try.prog cl0 [(1, true)] noLoops 400 Try.f20 (argsR z 14) 0 no) = okT [(!eqb (z 15) 0) == true] true := by kernel_rfl
    have h3 : rS (dfun Try.prog cl0 [(1, true)] noLoops 400 Try.f20 (argsR z 14) 0 no) 1 = some ⟨.ints .i64 [14], true, 3⟩ := by kernel_rfl
    have hs := run_spec hm cl0_ok (noLoops_ok _ _ _) Try.func20 (by kernel_rfl) (h2.trans (by rw [hk]; rfl))
    rw [h1] at hs
    exact mkR ⟨fun e => (by cases e), fun _ => ⟨1, _, _, _, hs, h3⟩⟩
theorem n20_1 (z : Nat → Int) : SpecR 20 z 1 (resL z 1) := by
  have H : ∀ i, [0, 2].contains i = true → ∀ z, SpecR 20 z i (resL z i) := by
    intro i hi z
    simp at hi
    rcases hi with rfl | rfl
    · exact n20_0 z
    · exact n20_2 z
  have hct : ∀ nils, CTOk Try.prog (orElse (resT 20 [0, 2] nils) cl0) := fun nils => orElse_ok (resT_ok H) cl0_ok
  have eL : resL z 1 = nodeR (z 17) 1 (resL z 0 ++ resL z 2) := rfl
  have la : (resL z 0).length ≤ 1 := len0 z
  have lb : (resL z 2).length ≤ 1 := len2 z
  cases hk : eqb (z 17) 0 with
  | false =>
    rw [eL, nodeR_true hk]
    have h1 : rV (dfun Try.prog (orElse (resT 20 [0, 2] []) cl0) [(1, true)] noLoops 400 Try.f20 (argsR z 1) 0 no) = .sl 1 0 1 1 true (some 1) := by kernel_rfl
    have h2 : rOk (dfun Try.prog (orElse (resT 20 [0, 2] []) cl0) [(1, true)] noLoops 400 Try.f20 (argsR z 1) 0 no) = okT [(!eqb (z 17) 0) == true] true := by kernel_rfl
    have h3 : rS (dfun Try.prog (orElse (resT 20 [0, 2] []) cl0) [(1, true)] noLoops 400 Try.f20 (argsR z 1) 0 no) 1 = some ⟨.ints .i64 [1], true, 3⟩ := by kernel_rfl
    have hs := run_spec hm (hct _) (noLoops_ok _ _ _) Try.func20 (by kernel_rfl) (h2.trans (by rw [hk]; rfl))
    rw [h1] at hs
    exact mkR ⟨fun e => (by cases e), fun _ => ⟨1, _, _, _, hs, h3⟩⟩
  | true =>
    rw [eL, nodeR_false hk]
    cases ea : emp (resL z 0) with
    | true => cases eb : emp (resL z 2) with
      | true =>
        have h1 : rV (dfun Try.prog (orElse (resT 20 [0, 2] [0, 2]) cl0) [(1, false)] noLoops 400 Try.f20 (argsR z 1) 0 no) = nilV := by kernel_rfl
        have h2 : rOk (dfun Try.prog (orElse (resT 20 [0, 2] [0, 2]) cl0) [(1, false)] noLoops 400 Try.f20 (argsR z 1) 0 no) = okT [(!eqb (z 17) 0) == false, emp (resL z 0), emp (resL z 2)] true := by kernel_rfl
        have hs := run_spec hm (hct _) (noLoops_ok _ _ _) Try.func20 (by kernel_rfl) (h2.trans (by rw [hk, ea, eb]; rfl))
        rw [h1] at hs
        rw [emp_ok.1 ea, emp_ok.1 eb]
        exact mkR ⟨fun _ => hs.pure (argsR_bare _ _) rfl 0, fun e => (e rfl).elim⟩
      | false =>
        have h1 : rV (dfun Try.prog (orElse (resT 20 [0, 2] [0]) cl0) [(1, false)] noLoops 400 Try.f20 (argsR z 1) 0 no) = .sl 2 0 (resL z 2).length 1 true none := by kernel_rfl
        have h2 : rOk (dfun Try.prog (orElse (resT 20 [0, 2] [0]) cl0) [(1, false)] noLoops 400 Try.f20 (argsR z 1) 0 no) = okT [(!eqb (z 17) 0) == false, emp (resL z 0), !emp (resL z 2), Nat.ble (0 + (resL z 2).length * 1) (resL z 2).length && Nat.ble ((resL z 2).length * 8) 140737488355328 && Nat.ble (resL z 2).length maxLen && Nat.blt 0 (resL z 2).length] true := by kernel_rfl
        have h3 : rS (dfun Try.prog (orElse (resT 20 [0, 2] [0]) cl0) [(1, false)] noLoops 400 Try.f20 (argsR z 1) 0 no) 2 = some ⟨.ints .i64 (((resL z 2).drop 0).take ((resL z 2).length * 1)), true, 3⟩ := by kernel_rfl
        have hp : 0 < (resL z 2).length := List.length_pos_iff.2 (emp_no.1 eb)
        have hs := run_spec hm (hct _) (noLoops_ok _ _ _) Try.func20 (by kernel_rfl) (h2.trans (by
          rw [hk, ea, eb, ble_ok (by omega), ble_ok (by omega), ble_ok (by unfold maxLen; omega), blt_ok hp]; rfl))
        rw [h1] at hs
        rw [dropAll] at h3
        rw [emp_ok.1 ea, List.nil_append]
        exact mkR ⟨fun e => (emp_no.1 eb e).elim, fun _ => ⟨2, _, _, _, hs, h3⟩⟩
    | false => cases eb : emp (resL z 2) with
      | true =>
        have h1 : rV (dfun Try.prog (orElse (resT 20 [0, 2] [2]) cl0) [(1, false)] noLoops 400 Try.f20 (argsR z 1) 0 no) = .sl 1 0 (resL z 0).length 1 true none := by kernel_rfl
        have h2 : rOk (dfun Try.prog (orElse (resT 20 [0, 2] [2]) cl0) [(1, false)] noLoops 400 Try.f20 (argsR z 1) 0 no) = okT [(!eqb (z 17) 0) == false, !emp (resL z 0), emp (resL z 2)] true := by kernel_rfl
        have h3 : rS (dfun Try.prog (orElse (resT 20 [0, 2] [2]) cl0) [(1, false)] noLoops 400 Try.f20 (argsR z 1) 0 no) 1 = some ⟨.ints .i64 (resL z 0), true, 3⟩ := by kernel_rfl
        have hs := run_spec hm (hct _) (noLoops_ok _ _ _) Try.func20 (by kernel_rfl) (h2.trans (by rw [hk, ea, eb]; rfl))
        rw [h1] at hs
        rw [emp_ok.1 eb, List.append_nil]
        exact mkR ⟨fun e => (emp_no.1 ea e).elim, fun _ => ⟨1, _, _, _, hs, h3⟩⟩
      | false =>
        have h1 : rV (dfun Try.prog (orElse (resT 20 [0, 2] []) cl0) [(1, false)] noLoops 400 Try.f20 (argsR z 1) 0 no) = .sl 3 0 ((resL z 0).length + (resL z 2).length) 1 true none := by kernel_rfl
        have h2 : rOk (dfun Try.prog (orElse (resT 20 [0, 2] []) cl0) [(1, false)] noLoops 400 Try.f20 (argsR z 1) 0 no) = okT [(!eqb (z 17) 0) == false, !emp (resL z 0), !emp (resL z 2), Nat.ble ((resL z 0).length * 1) (resL z 0).length && Nat.ble (0 + (resL z 2).length * 1) (resL z 2).length && Nat.ble (((resL z 0).length + (resL z 2).length) * 8) 140737488355328 && Nat.ble ((resL z 0).length + (resL z 2).length) maxLen] true := by kernel_rfl
        have h3 : rS (dfun Try.prog (orElse (resT 20 [0, 2] []) cl0) [(1, false)] noLoops 400 Try.f20 (argsR z 1) 0 no) 3 = some ⟨.ints .i64 ((resL z 0).take ((resL z 0).length * 1) ++ ((resL z 2).drop 0).take ((resL z 2).length * 1)), true, 3⟩ := by kernel_rfl
        have hs := run_spec hm (hct _) (noLoops_ok _ _ _) Try.func20 (by kernel_rfl) (h2.trans (by
          rw [hk, ea, eb, ble_ok (by omega), ble_ok (by omega), ble_ok (by omega), ble_ok (by unfold maxLen; omega)]; rfl))
        rw [h1] at hs
        rw [takeAll, dropAll] at h3
        rw [← List.length_append] at hs
        exact mkR ⟨fun e => (emp_no.1 ea (List.append_eq_nil_iff.1 e).1).elim, fun _ => ⟨3, _, _, _, hs, h3⟩⟩
theorem n20_5 (z : Nat → Int) : SpecR 20 z 5 (resL z 5) := by
  have H : ∀ i, [4, 6].contains i = true → ∀ z, SpecR 20 z i (resL z i) := by
    intro i hi z
    simp at hi
    rcases hi with rfl | rfl
    · exact n20_4 z
    · exact n20_6 z
  have hct : ∀ nils, CTOk Try.prog (orElse (resT 20 [4, 6] nils) cl0) := fun nils => orElse_ok (resT_ok H) cl0_ok
  have eL : resL z 5 = nodeR (z 21) 5 (resL z 4 ++ resL z 6) := rfl
  have la : (resL z 4).length ≤ 1 := len4 z
  have lb : (resL z 6).length ≤ 1 := len6 z
  cases hk : eqb (z 21) 0 with
  | false =>
    rw [eL, nodeR_true hk]
    have h1 : rV (dfun Try.prog (orElse (resT 20 [4, 6] []) cl0) [(1, true)] noLoops 400 Try.f20 (argsR z 5) 0 no) = .sl 1 0 1 1 true (some 1) := by kernel_rfl
    have h2 : rOk (dfun Try.prog (orElse (resT 20 [4, 6] []) cl0) [(1, true)] noLoops 400 Try.f20 (argsR z 5) 0 no) = okT [(!eqb (z 21) 0) == true] true := by kernel_rfl
    have h3 : rS (dfun Try.prog (orElse (resT 20 [4, 6] []) cl0) [(1, true)] noLoops 400 Try.f20 (argsR z 5) 0 no) 1 = some ⟨.ints .i64 [5], true, 3⟩ := by kernel_rfl
    have hs := run_spec hm (hct _) (noLoops_ok _ _ _) Try.func20 (by kernel_rfl) (h2.trans (by rw [hk]; rfl))
    rw [h1] at hs
    exact mkR ⟨fun e => (by cases e), fun _ => ⟨1, _, _, _, hs, h3⟩⟩
  | true =>
    rw [eL, nodeR_false hk]
    cases ea : emp (resL z 4) with
    | true => cases eb : emp (resL z 6) with
      | true =>
        have h1 : rV (dfun Try.prog (orElse (resT 20 [4, 6] [4, 6]) cl0) [(1, false)] noLoops 400 Try.f20 (argsR z 5) 0 no) = nilV := by kernel_rfl
        have h2 : rOk (dfun Try.prog (orElse (resT 20 [4, 6] [4, 6]) cl0) [(1, false)] noLoops 400 Try.f20 (argsR z 5) 0 no) = okT [(!eqb (z 21) 0) == false, emp (resL z 4), emp (resL z 6)] true := by kernel_rfl
        have hs := run_spec hm (hct _) (noLoops_ok _ _ _) Try.func20 (by kernel_rfl) (h2.trans (by rw [hk, ea, eb]; rfl))
        rw [h1] at hs
        rw [emp_ok.1 ea, emp_ok.1 eb]
        exact mkR ⟨fun _ => hs.pure (argsR_bare _ _) rfl 0, fun e => (e rfl).elim⟩
      | false =>
        have h1 : rV (dfun Try.prog (orElse (resT 20 [4, 6] [4]) cl0) [(1, false)] noLoops 400 Try.f20 (argsR z 5) 0 no) = .sl 2 0 (resL z 6).length 1 true none := by kernel_rfl
        have h2 : rOk (dfun Try.prog (orElse (resT 20 [4, 6] [4]) cl0) [(1, false)] noLoops 400 Try.f20 (argsR z 5) 0 no) = okT [(!eqb (z 21) 0) == false, emp (resL z 4), !emp (resL z 6), Nat.ble (0 + (resL z 6).length * 1) (resL z 6).length && Nat.ble ((resL z 6).length * 8) 140737488355328 && Nat.ble (resL z 6).length maxLen && Nat.blt 0 (resL z 6).length] true := by kernel_rfl
        have h3 : rS (dfun Try.prog (orElse (resT 20 [4, 6] [4]) cl0) [(1, false)] noLoops 400 Try.f20 (argsR z 5) 0 no) 2 = some ⟨.ints .i64 (((resL z 6).drop 0).take ((resL z 6).length * 1)), true, 3⟩ := by kernel_rfl
        have hp : 0 < (resL z 6).length := List.length_pos_iff.2 (emp_no.1 eb)
        have hs := run_spec hm (hct _) (noLoops_ok _ _ _) Try.func20 (by kernel_rfl) (h2.trans (by
          rw [hk, ea, eb, ble_ok (by omega), ble_ok (by omega), ble_ok (by unfold maxLen; omega), blt_ok hp]; rfl))
        rw [h1] at hs
        rw [dropAll] at h3
        rw [emp_ok.1 ea, List.nil_append]
        exact mkR ⟨fun e => (emp_no.1 eb e).elim, fun _ => ⟨2, _, _, _, hs, h3⟩⟩
    | false => cases eb : emp (resL z 6) with
      | true =>
        have h1 : rV (dfun Try.prog (orElse (resT 20 [4, 6] [6]) cl0) [(1, false)] noLoops 400 Try.f20 (argsR z 5) 0 no) = .sl 1 0 (resL z 4).length 1 true none := by kernel_rfl
        have h2 : rOk (dfun Try.prog (orElse (resT 20 [4, 6] [6]) cl0) [(1, false)] noLoops 400 Try.f20 (argsR z 5) 0 no) = okT [(!eqb (z 21) 0) == false, !emp (resL z 4), emp (resL z 6)] true := by kernel_rfl
        have h3 : rS (dfun Try.prog (orElse (resT 20 [4, 6] [6]) cl0) [(1, false)] noLoops 400 Try.f20 (argsR z 5) 0 no) 1 = some ⟨.ints .i64 (resL z 4), true, 3⟩ := by kernel_rfl
        have hs := run_spec hm (hct _) (noLoops_ok _ _ _) Try.func20 (by kernel_rfl) (h2.trans (by rw [hk, ea, eb]; rfl))
        rw [h1] at hs
        rw [emp_ok.1 eb, List.append_nil]
        exact mkR ⟨fun e => (emp_no.1 ea e).elim, fun _ => ⟨1, _, _, _, hs, h3⟩⟩
      | false =>
        have h1 : rV (dfun Try.prog (orElse (resT 20 [4, 6] []) cl0) [(1, false)] noLoops 400 Try.f20 (argsR z 5) 0 no) = .sl 3 0 ((resL z 4).length + (resL z 6).length) 1 true none := by kernel_rfl
        have h2 : rOk (dfun Try.prog (orElse (resT 20 [4, 6] []) cl0) [(1, false)] noLoops 400 Try.f20 (argsR z 5) 0 no) = okT [(!eqb (z 21) 0) == false, !emp (resL z 4), !emp (resL z 6), Nat.ble ((resL z 4).length * 1) (resL z 4).length && Nat.ble (0 + (resL z 6).length * 1) (resL z 6).length && Nat.ble (((resL z 4).length + (resL z 6).length) * 8) 140737488355328 && Nat.ble ((resL z 4).length + (resL z 6).length) maxLen] true := by kernel_rfl
        have h3 : rS (dfun Try.prog (orElse (resT 20 [4, 6] []) cl0) [(1, false)] noLoops 400 Try.f20 (argsR z 5) 0 no) 3 = some ⟨.ints .i64 ((resL z 4).take ((resL z 4).length * 1) ++ ((resL z 6).drop 0).take ((resL z 6).length * 1)), true, 3⟩ := by kernel_rfl
        have hs := run_spec hm (hct _) (noLoops_ok _ _ _) Try.func20 (by kernel_rfl) (h2.trans (by
          rw [hk, ea, eb, ble_ok (by omega), ble_ok (by omega), ble_ok (by omega), ble_ok (by unfold maxLen; omega)]; rfl))
        rw [h1] at hs
        rw [takeAll, dropAll] at h3
        rw [← List.length_append] at hs
        exact mkR ⟨fun e => (emp_no.1 ea (List.append_eq_nil_iff.1 e).1).elim, fun _ => ⟨3, _, _, _, hs, h3⟩⟩
theorem n20_9 (z : Nat → Int) : SpecR 20 z 9 (resL z 9) := by
  have H : ∀ i, [8, 10].contains i = true → ∀ z, SpecR 20 z i (resL z i) := by
    intro i hi z
    simp at hi
    rcases hi with rfl | rfl
    · exact n20_8 z
    · exact n20_10 z
  have hct : ∀ nils, CTOk Try.prog (orElse (resT 20 [8, 10] nils) cl0) := fun nils => orElse_ok (resT_ok H) cl0_ok
  have eL : resL z 9 = nodeR (z 25) 9 (resL z 8 ++ resL z 10) := rfl
  have la : (resL z 8).length ≤ 1 := len8 z
  have lb : (resL z 10).length ≤ 1 := len10 z
  cases hk : eqb (z 25) 0 with
  | false =>
    rw [eL, nodeR_true hk]
    have h1 : rV (dfun Try.prog (orElse (resT 20 [8, 10] []) cl0) [(1, true)] noLoops 400 Try.f20 (argsR z 9) 0 no) = .sl 1 0 1 1 true (some 1) := by kernel_rfl
    have h2 : rOk (dfun Try.prog (orElse (resT 20 [8, 10] []) cl0) [(1, true)] noLoops 400 Try.f20 (argsR z 9) 0 no) = okT [(!eqb (z 25) 0) == true] true := by kernel_rfl
    have h3 : rS (dfun Try.prog (orElse (resT 20 [8, 10] []) cl0) [(1, true)] noLoops 400 Try.f20 (argsR z 9) 0 no) 1 = some ⟨.ints .i64 [9], true, 3⟩ := by kernel_rfl
    have hs := run_spec hm (hct _) (noLoops_ok _ _ _) Try.func20 (by kernel_rfl) (h2.trans (by rw [hk]; rfl))
    rw [h1] at hs
    exact mkR ⟨fun e => (by cases e), fun _ => ⟨1, _, _, _, hs, h3⟩⟩
  | true =>
    rw [eL, nodeR_false hk]
    cases ea : emp (resL z 8) with
    | true => cases eb : emp (resL z 10) with
      | true =>
        have h1 : rV (dfun Try.prog (orElse (resT 20 [8, 10] [8, 10]) cl0) [(1, false)] noLoops 400 Try.f20 (argsR z 9) 0 no) = nilV := by kernel_rfl
        have h2 : rOk (dfun Try.prog (orElse (resT 20 [8, 10] [8, 10]) cl0) [(1, false)] noLoops 400 Try.f20 (argsR z 9) 0 no) = okT [(!eqb (z 25) 0) == false, emp (resL z 8), emp (resL z 10)] true := by kernel_rfl
        have hs := run_spec hm (hct _) (noLoops_ok _ _ _) Try.func20 (by kernel_rfl) (h2.trans (by rw [hk, ea, eb]; rfl))
        rw [h1] at hs
        rw [emp_ok.1 ea, emp_ok.1 eb]
        exact mkR ⟨fun _ => hs.pure (argsR_bare _ _) rfl 0, fun e => (e rfl).elim⟩
      | false =>
        have h1 : rV (dfun Try.prog (orElse (resT 20 [8, 10] [8]) cl0) [(1, false)] noLoops 400 Try.f20 (argsR z 9) 0 no) = .sl 2 0 (resL z 10).length 1 true none := by kernel_rfl
        have h2 : rOk (dfun Try.prog (orElse (resT 20 [8, 10] [8]) cl0) [(1, false)] noLoops 400 Try.f20 (argsR z 9) 0 no) = okT [(!eqb (z 25) 0) == false, emp (resL z 8), !emp (resL z 10), Nat.ble (0 + (resL z 10).length * 1) (resL z 10).length && Nat.ble ((resL z 10).length * 8) 140737488355328 && Nat.ble (resL z 10).length maxLen && Nat.blt 0 (resL z 10).length] true := by kernel_rfl
        have h3 : rS (dfun Try.prog (orElse (resT 20 [8, 10] [8]) cl0) [(1, false)] noLoops 400 Try.f20 (argsR z 9) 0 no) 2 = some ⟨.ints .i64 (((resL z 10).drop 0).take ((resL z 10).length * 1)), true, 3⟩ := by kernel_rfl
        have hp : 0 < (resL z 10).length := List.length_pos_iff.2 (emp_no.1 eb)
        have hs := run_spec hm (hct _) (noLoops_ok _ _ _) Try.func20 (by kernel_rfl) (h2.trans (by
          rw [hk, ea, eb, ble_ok (by omega), ble_ok (by omega), ble_ok (by unfold maxLen; omega), blt_ok hp]; rfl))
        rw [h1] at hs
        rw [dropAll] at h3
        rw [emp_ok.1 ea, List.nil_append]
        exact mkR ⟨fun e => (emp_no.1 eb e).elim, fun _ => ⟨2, _, _, _, hs, h3⟩⟩
    | false => cases eb : emp (resL z 10) with
      | true =>
        have h1 : rV (dfun Try.prog (orElse (resT 20 [8, 10] [10]) cl0) [(1, false)] noLoops 400 Try.f20 (argsR z 9) 0 no) = .sl 1 0 (resL z 8).length 1 true none := by kernel_rfl
        have h2 : rOk (dfun Try.prog (orElse (resT 20 [8, 10] [10]) cl0) [(1, false)] noLoops 400 Try.f20 (argsR z 9) 0 no) = okT [(!eqb (z 25) 0) == false, !emp (resL z 8), emp (resL z 10)] true := by kernel_rfl
        have h3 : rS (dfun Try.prog (orElse (resT 20 [8, 10] [10]) cl0) [(1, false)] noLoops 400 Try.f20 (argsR z 9) 0 no) 1 = some ⟨.ints .i64 (resL z 8), true, 3⟩ := by kernel_rfl
        have hs := run_spec hm (hct _) (noLoops_ok _ _ _) Try.func20 (by kernel_rfl) (h2.trans (by rw [hk, ea, eb]; rfl))
        rw [h1] at hs
        rw [emp_ok.1 eb, List.append_nil]
        exact mkR ⟨fun e => (emp_no.1 ea e).elim, fun _ => ⟨1, _, _, _, hs, h3⟩⟩
      | false =>
        have h1 : rV (dfun Try.prog (orElse (resT 20 [8, 10] []) cl0) [(1, false)] noLoops 400 Try.f20 (argsR z 9) 0 no) = .sl 3 0 ((resL z 8).length + (resL z 10).length) 1 true none := by kernel_rfl
        have h2 : rOk (dfun Try.prog (orElse (resT 20 [8, 10] []) cl0) [(1, false)] noLoops 400 Try.f20 (argsR z 9) 0 no) = okT [(!eqb (z 25) 0) == false, !emp (resL z 8), !emp (resL z 10), Nat.ble ((resL z 8).length * 1) (resL z 8).length && Nat.ble (0 + (resL z 10).length * 1) (resL z 10).length && Nat.ble (((resL z 8).length + (resL z 10).length) * 8) 140737488355328 && Nat.ble ((resL z 8).length + (resL z 10).length) maxLen] true := by kernel_rfl
        have h3 : rS (dfun Try.prog (orElse (resT 20 [8, 10] []) cl0) [(1, false)] noLoops 400 Try.f20 (argsR z 9) 0 no) 3 = some ⟨.ints .i64 ((resL z 8).take ((resL z 8).length * 1) ++ ((resL z 10).drop 0).take ((resL z 10).length * 1)), true, 3⟩ := by kernel_rfl
        have hs := run_spec hm (hct _) (noLoops_ok _ _ _) Try.func20 (by kernel_rfl) (h2.trans (by
          rw [hk, ea, eb, ble_ok (by omega), ble_ok (by omega), ble_ok (by omega), ble_ok (by unfold maxLen; omega)]; rfl))
        rw [h1] at hs
        rw [takeAll, dropAll] at h3
        rw [← List.length_append] at hs
        exact mkR ⟨fun e => (emp_no.1 ea (List.append_eq_nil_iff.1 e).1).elim, fun _ => ⟨3, _, _, _, hs, h3⟩⟩
theorem n20_13 (z : Nat → Int) : SpecR 20 z 13 (resL z 13) := by
  have H : ∀ i, [12, 14].contains i = true → ∀ z, SpecR 20 z i (resL z i) := by
    intro i hi z
    simp at hi
    rcases hi with rfl | rfl
    · exact n20_12 z
    · exact n20_14 z
  have hct : ∀ nils, CTOk Try.prog (orElse (resT 20 [12, 14] nils) cl0) := fun nils => orElse_ok (resT_ok H) cl0_ok
  have eL : resL z 13 = nodeR (z 29) 13 (resL z 12 ++ resL z 14) := rfl
  have la : (resL z 12).length ≤ 1 := len12 z
  have lb : (resL z 14).length ≤ 1 := len14 z
  cases hk : eqb (z 29) 0 with
  | false =>
    rw [eL, nodeR_true hk]
    have h1 : rV (dfun Try.prog (orElse (resT 20 [12, 14] []) cl0) [(1, true)] noLoops 400 Try.f20 (argsR z 13) 0 no) = .sl 1 0 1 1 true (some 1) := by kernel_rfl
    have h2 : rOk (dfun Try.prog (orElse (resT 20 [12, 14] []) cl0) [(1, true)] noLoops 400 Try.f20 (argsR z 13) 0 no) = okT [(!eqb (z 29) 0) == true] true := by kernel_rfl
    have h3 : rS (dfun Try.prog (orElse (resT 20 [12, 14] []) cl0) [(1, true)] noLoops 400 Try.f20 (argsR z 13) 0 no) 1 = some ⟨.ints .i64 [13], true, 3⟩ := by kernel_rfl
    have hs := run_spec hm (hct _) (noLoops_ok _ _ _) Try.func20 (by kernel_rfl) (h2.trans (by rw [hk]; rfl))
    rw [h1] at hs
    exact mkR ⟨fun e => (by cases e), fun _ => ⟨1, _, _, _, hs, h3⟩⟩
  | true =>
    rw [eL, nodeR_false hk]
    cases ea : emp (resL z 12) with
    | true => cases eb : emp (resL z 14) with
      | true =>
        have h1 : rV (dfun Try.prog (orElse (resT 20 [12, 14] [12, 14]) cl0) [(1, false)] noLoops 400 Try.f20 (argsR z 13) 0 no) = nilV := by kernel_rfl
        have h2 : rOk (dfun Try.prog (orElse (resT 20 [12, 14] [12, 14]) cl0) [(1, false)] noLoops 400 Try.f20 (argsR z 13) 0 no) = okT [(!eqb (z 29) 0) == false, emp (resL z 12), emp (resL z 14)] true := by kernel_rfl
        have hs := run_spec hm (hct _) (noLoops_ok _ _ _) Try.func20 (by kernel_rfl) (h2.trans (by rw [hk, ea, eb]; rfl))
        rw [h1] at hs
        rw [emp_ok.1 ea, emp_ok.1 eb]
        exact mkR ⟨fun _ => hs.pure (argsR_bare _ _) rfl 0, fun e => (e rfl).elim⟩
      | false =>
        have h1 : rV (dfun Try.prog (orElse (resT 20 [12, 14] [12]) cl0) [(1, false)] noLoops 400 Try.f20 (argsR z 13) 0 no) = .sl 2 0 (resL z 14).length 1 true none := by kernel_rfl
        have h2 : rOk (dfun Try.prog (orElse (resT 20 [12, 14] [12]) cl0) [(1, false)] noLoops 400 Try.f20 (argsR z 13) 0 no) = okT [(!eqb (z 29) 0) == false, emp (resL z 12), !emp (resL z 14), Nat.ble (0 + (resL z 14).length * 1) (resL z 14).length && Nat.ble ((resL z 14).length * 8) 140737488355328 && Nat.ble (resL z 14).length maxLen && Nat.blt 0 (resL z 14).length] true := by kernel_rfl
        have h3 : rS (dfun Try.prog (orElse (resT 20 [12, 14] [12]) cl0) [(1, false)] noLoops 400 Try.f20 (argsR z 13) 0 no) 2 = some ⟨.ints .i64 (((resL z 14).drop 0).take ((resL z 14).length * 1)), true, 3⟩ := by kernel_rfl
        have hp : 0 < (resL z 14).length := List.length_pos_iff.2 (emp_no.1 eb)
        have hs := run_spec hm (hct _) (noLoops_ok _ _ _) Try.func20 (by kernel_rfl) (h2.trans (by
          rw [hk, ea, eb, ble_ok (by omega), ble_ok (by omega), ble_ok (by unfold maxLen; omega), blt_ok hp]; rfl))
        rw [h1] at hs
        rw [dropAll] at h3
        rw [emp_ok.1 ea, List.nil_append]
        exact mkR ⟨fun e => (emp_no.1 eb e).elim, fun _ => ⟨2, _, _, _, hs, h3⟩⟩
    | false => cases eb : emp (resL z 14) with
      | true =>
        have h1 : rV (dfun Try.prog (orElse (resT 20 [12, 14] [14]) cl0) [(1, false)] noLoops 400 Try.f20 (argsR z 13) 0 no) = .sl 1 0 (resL z 12).length 1 true none := by kernel_rfl
        have h2 : rOk (dfun Try.prog (orElse (resT 20 [12, 14] [14]) cl0) [(1, false)] noLoops 400 Try.f20 (argsR z 13) 0 no) = okT [(!eqb (z 29) 0) == false, !emp (resL z 12), emp (resL z 14)] true := by kernel_rfl
        have h3 : rS (dfun Try.prog (orElse (resT 20 [12, 14] [14]) cl0) [(1, false)] noLoops 400 Try.f20 (argsR z 13) 0 no) 1 = some ⟨.ints .i64 (resL z 12), true, 3⟩ := by kernel_rfl
        have hs := run_spec hm (hct _) (noLoops_ok _ _ _) Try.func20 (by kernel_rfl) (h2.trans (by rw [hk, ea, eb]; rfl))
        rw [h1] at hs
        rw [emp_ok.1 eb, List.append_nil]
        exact mkR ⟨fun e => (emp_no.1 ea e).elim, fun _ => ⟨1, _, _, _, hs, h3⟩⟩
      | false =>
        have h1 : rV (dfun Try.prog (orElse (resT 20 [12, 14] []) cl0) [(1, false)] noLoops 400 Try.f20 (argsR z 13) 0 no) = .sl 3 0 ((resL z 12).length + (resL z 14).length) 1 true none := by kernel_rfl
        have h2 : rOk (dfun Try.prog (orElse (resT 20 [12, 14] []) cl0) [(1, false)] noLoops 400 Try.f20 (argsR z 13) 0 no) = okT [(!eqb (z 29) 0) == false, !emp (resL z 12), !emp (resL z 14), Nat.ble ((resL z 12).length * 1) (resL z 12).length && Nat.ble (0 + (resL z 14).length * 1) (resL z 14).length && Nat.ble (((resL z 12).length + (resL z 14).length) * 8) 140737488355328 && Nat.ble ((resL z 12).length + (resL z 14).length) maxLen] true := by kernel_rfl
        have h3 : rS (dfun Try.prog (orElse (resT 20 [12, 14] []) cl0) [(1, false)] noLoops 400 Try.f20 (argsR z 13) 0 no) 3 = some ⟨.ints .i64 ((resL z 12).take ((resL z 12).length * 1) ++ ((resL z 14).drop 0).take ((resL z 14).length * 1)), true, 3⟩ := by kernel_rfl
        have hs := run_spec hm (hct _) (noLoops_ok _ _ _) Try.func20 (by kernel_rfl) (h2.trans (by
          rw [hk, ea, eb, ble_ok (by omega), ble_ok (by omega), ble_ok (by omega), ble_ok (by unfold maxLen; omega)]; rfl))
        rw [h1] at hs
        rw [takeAll, dropAll] at h3
        rw [← List.length_append] at hs
        exact mkR ⟨fun e => (emp_no.1 ea (List.append_eq_nil_iff.1 e).1).elim, fun _ => ⟨3, _, _, _, hs, h3⟩⟩
theorem n20_3 (z : Nat → Int) : SpecR 20 z 3 (resL z 3) := by
  have H : ∀ i, [1, 5].contains i = true → ∀ z, SpecR 20 z i (resL z i) := by
    intro i hi z
    simp at hi
    rcases hi with rfl | rfl
    · exact n20_1 z
    · exact n20_5 z
  have hct : ∀ nils, CTOk Try.prog (orElse (resT 20 [1, 5] nils) cl0) := fun nils => orElse_ok (resT_ok H) cl0_ok
  have eL : resL z 3 = nodeR (z 19) 3 (resL z 1 ++ resL z 5) := rfl
  have la : (resL z 1).length ≤ 2 := len1 z
  have lb : (resL z 5).length ≤ 2 := len5 z
  cases hk : eqb (z 19) 0 with
  | false =>
    rw [eL, nodeR_true hk]
    have h1 : rV (dfun Try.prog (orElse (resT 20 [1, 5] []) cl0) [(1, true)] noLoops 400 Try.f20 (argsR z 3) 0 no) = .sl 1 0 1 1 true (some 1) := by kernel_rfl
    have h2 : rOk (dfun Try.prog (orElse (resT 20 [1, 5] []) cl0) [(1, true)] noLoops 400 Try.f20 (argsR z 3) 0 no) = okT [(!eqb (z 19) 0) == true] true := by kernel_rfl
    have h3 : rS (dfun Try.prog (orElse (resT 20 [1, 5] []) cl0) [(1, true)] noLoops 400 Try.f20 (argsR z 3) 0 no) 1 = some ⟨.ints .i64 [3], true, 3⟩ := by kernel_rfl
    have hs := run_spec hm (hct _) (noLoops_ok _ _ _) Try.func20 (by kernel_rfl) (h2.trans (by rw [hk]; rfl))
    rw [h1] at hs
    exact mkR ⟨fun e => (by cases e), fun _ => ⟨1, _, _, _, hs, h3⟩⟩
  | true =>
    rw [eL, nodeR_false hk]
    cases ea : emp (resL z 1) with
    | true => cases eb : emp (resL z 5) with
      | true =>
        have h1 : rV (dfun Try.prog (orElse (resT 20 [1, 5] [1, 5]) cl0) [(1, false)] noLoops 400 Try.f20 (argsR z 3) 0 no) = nilV := by kernel_rfl
        have h2 : rOk (dfun Try.prog (orElse (resT 20 [1, 5] [1, 5]) cl0) [(1, false)] noLoops 400 Try.f20 (argsR z 3) 0 no) = okT [(!eqb (z 19) 0) == false, emp (resL z 1), emp (resL z 5)] true := by kernel_rfl
        have hs := run_spec hm (hct _) (noLoops_ok _ _ _) Try.func20 (by kernel_rfl) (h2.trans (by rw [hk, ea, eb]; rfl))
        rw [h1] at hs
        rw [emp_ok.1 ea, emp_ok.1 eb]
        exact mkR ⟨fun _ => hs.pure (argsR_bare _ _) rfl 0, fun e => (e rfl).elim⟩
      | false =>
        have h1 : rV (dfun Try.prog (orElse (resT 20 [1, 5] [1]) cl0) [(1, false)] noLoops 400 Try.f20 (argsR z 3) 0 no) = .sl 2 0 (resL z 5).length 1 true none := by kernel_rfl
        have h2 : rOk (dfun Try.prog (orElse (resT 20 [1, 5] [1]) cl0) [(1, false)] noLoops 400 Try.f20 (argsR z 3) 0 no) = okT [(!eqb (z 19) 0) == false, emp (resL z 1), !emp (resL z 5), Nat.ble (0 + (resL z 5).length * 1) (resL z 5).length && Nat.ble ((resL z 5).length * 8) 140737488355328 && Nat.ble (resL z 5).length maxLen && Nat.blt 0 (resL z 5).length] true := by kernel_rfl
        have h3 : rS (dfun Try.prog (orElse (resT 20 [1, 5] [1]) cl0) [(1, false)] noLoops 400 Try.f20 (argsR z 3) 0 no) 2 = some ⟨.ints .i64 (((resL z 5).drop 0).take ((resL z 5).length * 1)), true, 3⟩ := by kernel_rfl
        have hp : 0 < (resL z 5).length := List.length_pos_iff.2 (emp_no.1 eb)
        have hs := run_spec hm (hct _) (noLoops_ok _ _ _) Try.func20 (by kernel_rfl) (h2.trans (by
          rw [hk, ea, eb, ble_ok (by omega), ble_ok (by omega), ble_ok (by unfold maxLen; omega), blt_ok hp]; rfl))
        rw [h1] at hs
        rw [dropAll] at h3
        rw [emp_ok.1 ea, List.nil_append]
        exact mkR ⟨fun e => (emp_no.1 eb e).elim, fun _ => ⟨2, _, _, _, hs, h3⟩⟩
    | false => cases eb : emp (resL z 5) with
      | true =>
        have h1 : rV (dfun Try.prog (orElse (resT 20 [1, 5] [5]) cl0) [(1, false)] noLoops 400 Try.f20 (argsR z 3) 0 no) = .sl 1 0 (resL z 1).length 1 true none := by kernel_rfl
        have h2 : rOk (dfun Try.prog (orElse (resT 20 [1, 5] [5]) cl0) [(1, false)] noLoops 400 Try.f20 (argsR z 3) 0 no) = okT [(!eqb (z 19) 0) == false, !emp (resL z 1), emp (resL z 5)] true := by kernel_rfl
        have h3 : rS (dfun Try.prog (orElse (resT 20 [1, 5] [5]) cl0) [(1, false)] noLoops 400 Try.f20 (argsR z 3) 0 no) 1 = some ⟨.ints .i64 (resL z 1), true, 3⟩ := by kernel_rfl
        have hs := run_spec hm (hct _) (noLoops_ok _ _ _) Try.func20 (by kernel_rfl) (h2.trans (by rw [hk, ea, eb]; rfl))
        rw [h1] at hs
        rw [emp_ok.1 eb, List.append_nil]
        exact mkR ⟨fun e => (emp_no.1 ea e).elim, fun _ => ⟨1, _, _, _, hs, h3⟩⟩
      | false =>
        have h1 : rV (dfun Try.prog (orElse (resT 20 [1, 5] []) cl0) [(1, false)] noLoops 400 Try.f20 (argsR z 3) 0 no) = .sl 3 0 ((resL z 1).length + (resL z 5).length) 1 true none := by kernel_rfl
        have h2 : rOk (dfun Try.prog (orElse (resT 20 [1, 5] []) cl0) [(1, false)] noLoops 400 Try.f20 (argsR z 3) 0 no) = okT [(!eqb (z 19) 0) == false, !emp (resL z 1), !emp (resL z 5), Nat.ble ((resL z 1).length * 1) (resL z 1).length && Nat.ble (0 + (resL z 5).length * 1) (resL z 5).length && Nat.ble (((resL z 1).length + (resL z 5).length) * 8) 140737488355328 && Nat.ble ((resL z 1).length + (resL z 5).length) maxLen] true := by kernel_rfl
        have h3 : rS (dfun Try.prog (orElse (resT 20 [1, 5] []) cl0) [(1, false)] noLoops 400 Try.f20 (argsR z 3) 0 no) 3 = some ⟨.ints .i64 ((resL z 1).take ((resL z 1).length * 1) ++ ((resL z 5).drop 0).take ((resL z 5).length * 1)), true, 3⟩ := by kernel_rfl
        have hs := run_spec hm (hct _) (noLoops_ok _ _ _) Try.func20 (by kernel_rfl) (h2.trans (by
          rw [hk, ea, eb, ble_ok (by omega), ble_ok (by omega), ble_ok (by omega), ble_ok (by unfold maxLen; omega)]; rfl))
        rw [h1] at hs
        rw [takeAll, dropAll] at h3
        rw [← List.length_append] at hs
        exact mkR ⟨fun e => (emp_no.1 ea (List.append_eq_nil_iff.1 e).1).elim, fun _ => ⟨3, _, _, _, hs, h3⟩⟩
theorem n20_11 (z : Nat → Int) : SpecR 20 z 11 (resL z 11) := by
  have H : ∀ i, [9, 13].contains i = true → ∀ z, SpecR 20 z i (resL z i) := by
    intro i hi z
    simp at hi
    rcases hi with rfl | rfl
    · exact n20_9 z
    · exact n20_13 z
  have hct : ∀ nils, CTOk Try.prog (orElse (resT 20 [9, 13] nils) cl0) := fun nils => orElse_ok (resT_ok H) cl0_ok
  have eL : resL z 11 = nodeR (z 27) 11 (resL z 9 ++ resL z 13) := rfl
  have la : (resL z 9).length ≤ 2 := len9 z
  have lb : (resL z 13).length ≤ 2 := len13 z
  cases hk : eqb (z 27) 0 with
  | false =>
    rw [eL, nodeR_true hk]
    have h1 : rV (dfun Try.prog (orElse (resT 20 [9, 13] []) cl0) [(1, true)] noLoops 400 Try.f20 (argsR z 11) 0 no) = .sl 1 0 1 1 true (some 1) := by kernel_rfl
    have h2 : rOk (dfun Try.prog (orElse (resT 20 [9, 13] []) cl0) [(1, true)] noLoops 400 Try.f20 (argsR z 11) 0 no) = okT [(!eqb (z 27) 0) == true] true := by kernel_rfl
    have h3 : rS (dfun Try.prog (orElse (resT 20 [9, 13] []) cl0) [(1, true)] noLoops 400 Try.f20 (argsR z 11) 0 no) 1 = some ⟨.ints .i64 [11], true, 3⟩ := by kernel_rfl
    have hs := run_spec hm (hct _) (noLoops_ok _ _ _) Try.func20 (by kernel_rfl) (h2.trans (by rw [hk]; rfl))
    rw [h1] at hs
    exact mkR ⟨fun e => (by cases e), fun _ => ⟨1, _, _, _, hs, h3⟩⟩
  | true =>
    rw [eL, nodeR_false hk]
    cases ea : emp (resL z 9) with
    | true => cases eb : emp (resL z 13) with
      | true =>
        have h1 : rV (dfun Try.prog (orElse (resT 20 [9, 13] [9, 13]) cl0) [(1, false)] noLoops 400 Try.f20 (argsR z 11) 0 no) = nilV := by kernel_rfl
        have h2 : rOk (dfun Try.prog (orElse (resT 20 [9, 13] [9, 13]) cl0) [(1, false)] noLoops 400 Try.f20 (argsR z 11) 0 no) = okT [(!eqb (z 27) 0) == false, emp (resL z 9), emp (resL z 13)] true := by kernel_rfl
        have hs := run_spec hm (hct _) (noLoops_ok _ _ _) Try.func20 (by kernel_rfl) (h2.trans (by rw [hk, ea, eb]; rfl))
        rw [h1] at hs
        rw [emp_ok.1 ea, emp_ok.1 eb]
        exact mkR ⟨fun _ => hs.pure (argsR_bare _ _) rfl 0, fun e => (e rfl).elim⟩
      | false =>
        have h1 : rV (dfun Try.prog (orElse (resT 20 [9, 13] [9]) cl0) [(1, false)] noLoops 400 Try.f20 (argsR z 11) 0 no) = .sl 2 0 (resL z 13).length 1 true none := by kernel_rfl
        have h2 : rOk (dfun Try.prog (orElse (resT 20 [9, 13] [9]) cl0) [(1, false)] noLoops 400 Try.f20 (argsR z 11) 0 no) = okT [(!eqb (z 27) 0) == false, emp (resL z 9), !emp (resL z 13), Nat.ble (0 + (resL z 13).length * 1) (resL z 13).length && Nat.ble ((resL z 13).length * 8) 140737488355328 && Nat.ble (resL z 13).length maxLen && Nat.blt 0 (resL z 13).length] true := by kernel_rfl
        have h3 : rS (dfun Try.prog (orElse (resT 20 [9, 13] [9]) cl0) [(1, false)] noLoops 400 Try.f20 (argsR z 11) 0 no) 2 = some ⟨.ints .i64 (((resL z 13).drop 0).take ((resL z 13).length * 1)), true, 3⟩ := by kernel_rfl
        have hp : 0 < (resL z 13).length := List.length_pos_iff.2 (emp_no.1 eb)
        have hs := run_spec hm (hct _) (noLoops_ok _ _ _) Try.func20 (by kernel_rfl) (h2.trans (by
          rw [hk, ea, eb, ble_ok (by omega), ble_ok (by omega), ble_ok (by unfold maxLen; omega), blt_ok hp]; rfl))
        rw [h1] at hs
        rw [dropAll] at h3
        rw [emp_ok.1 ea, List.nil_append]
        exact mkR ⟨fun e => (emp_no.1 eb e).elim, fun _ => ⟨2, _, _, _, hs, h3⟩⟩
    | false => cases eb : emp (resL z 13) with
      | true =>
        have h1 : rV (dfun Try.prog (orElse (resT 20 [9, 13] [13]) cl0) [(1, false)] noLoops 400 Try.f20 (argsR z 11) 0 no) = .sl 1 0 (resL z 9).length 1 true none := by kernel_rfl
        have h2 : rOk (dfun Try.prog (orElse (resT 20 [9, 13] [13]) cl0) [(1, false)] noLoops 400 Try.f20 (argsR z 11) 0 no) = okT [(!eqb (z 27) 0) == false, !emp (resL z 9), emp (resL z 13)] true := by kernel_rfl
        have h3 : rS (dfun Try.prog (orElse (resT 20 [9, 13] [13]) cl0) [(1, false)] noLoops 400 Try.f20 (argsR z 11) 0 no) 1 = some ⟨.ints .i64 (resL z 9), true, 3⟩ := by kernel_rfl
        have hs := run_spec hm (hct _) (noLoops_ok _ _ _) Try.func20 (by kernel_rfl) (h2.trans (by rw [hk, ea, eb]; rfl))
        rw [h1] at hs
        rw [emp_ok.1 eb, List.append_nil]
        exact mkR ⟨fun e => (emp_no.1 ea e).elim, fun _ => ⟨1, _, _, _, hs, h3⟩⟩
      | false =>
        have h1 : rV (dfun Try.prog (orElse (resT 20 [9, 13] []) cl0) [(1, false)] noLoops 400 Try.f20 (argsR z 11) 0 no) = .sl 3 0 ((resL z 9).length + (resL z 13).length) 1 true none := by kernel_rfl
        have h2 : rOk (dfun Try.prog (orElse (resT 20 [9, 13] []) cl0) [(1, false)] noLoops 400 Try.f20 (argsR z 11) 0 no) = okT [(!eqb (z 27) 0) == false, !emp (resL z 9), !emp (resL z 13), Nat.ble ((resL z 9).length * 1) (resL z 9).length && Nat.ble (0 + (resL z 13).length * 1) (resL z 13).length && Nat.ble (((resL z 9).length + (resL z 13).length) * 8) 140737488355328 && Nat.ble ((resL z 9).length + (resL z 13).length) maxLen] true := by kernel_rfl
        have h3 : rS (dfun Try.prog (orElse (resT 20 [9, 13] []) cl0) [(1, false)] noLoops 400 Try.f20 (argsR z 11) 0 no) 3 = some ⟨.ints .i64 ((resL z 9).take ((resL z 9).length * 1) ++ ((resL z 13).drop 0).take ((resL z 13).length * 1)), true, 3⟩ := by kernel_rfl
        have hs := run_spec hm (hct _) (noLoops_ok _ _ _) Try.func20 (by kernel_rfl) (h2.trans (by
          rw [hk, ea, eb, ble_ok (by omega), ble_ok (by omega), ble_ok (by omega), ble_ok (by unfold maxLen; omega)]; rfl))
        rw [h1] at hs
        rw [takeAll, dropAll] at h3
        rw [← List.length_append] at hs
        exact mkR ⟨fun e => (emp_no.1 ea (List.append_eq_nil_iff.1 e).1).elim, fun _ => ⟨3, _, _, _, hs, h3⟩⟩
theorem n20_7 (z : Nat → Int) : SpecR 20 z 7 (resL z 7) := by
  have H : ∀ i, [3, 11].contains i = true → ∀ z, SpecR 20 z i (resL z i) := by
    intro i hi z
    simp at hi
    rcases hi with rfl | rfl
    · exact n20_3 z
    · exact n20_11 z
  have hct : ∀ nils, CTOk Try.prog (orElse (resT 20 [3, 11] nils) cl0) := fun nils => orElse_ok (resT_ok H) cl0_ok
  have eL : resL z 7 = nodeR (z 23) 7 (resL z 3 ++ resL z 11) := rfl
  have la : (resL z 3).length ≤ 4 := len3 z
  have lb : (resL z 11).length ≤ 4 := len11 z
  cases hk : eqb (z 23) 0 with
  | false =>
    rw [eL, nodeR_true hk]
    have h1 : rV (dfun Try.prog (orElse (resT 20 [3, 11] []) cl0) [(1, true)] noLoops 400 Try.f20 (argsR z 7) 0 no) = .sl 1 0 1 1 true (some 1) := by kernel_rfl
    have h2 : rOk (dfun Try.prog (orElse (resT 20 [3, 11] []) cl0) [(1, true)] noLoops 400 Try.f20 (argsR z 7) 0 no) = okT [(!eqb (z 23) 0) == true] true := by kernel_rfl
    have h3 : rS (dfun Try.prog (orElse (resT 20 [3, 11] []) cl0) [(1, true)] noLoops 400 Try.f20 (argsR z 7) 0 no) 1 = some ⟨.ints .i64 [7], true, 3⟩ := by kernel_rfl
    have hs := run_spec hm (hct _) (noLoops_ok _ _ _) Try.func20 (by kernel_rfl) (h2.trans (by rw [hk]; rfl))
    rw [h1] at hs
    exact mkR ⟨fun e => (by cases e), fun _ => ⟨1, _, _, _, hs, h3⟩⟩
  | true =>
    rw [eL, nodeR_false hk]
    cases ea : emp (resL z 3) with
    | true => cases eb : emp (resL z 11) with
      | true =>
        have h1 : rV (dfun Try.prog (orElse (resT 20 [3, 11] [3, 11]) cl0) [(1, false)] noLoops 400 Try.f20 (argsR z 7) 0 no) = nilV := by kernel_rfl
        have h2 : rOk (dfun Try.prog (orElse (resT 20 [3, 11] [3, 11]) cl0) [(1, false)] noLoops 400 Try.f20 (argsR z 7) 0 no) = okT [(!eqb (z 23) 0) == false, emp (resL z 3), emp (resL z 11)] true := by kernel_rfl
        have hs := run_spec hm (hct _) (noLoops_ok _ _ _) Try.func20 (by kernel_rfl) (h2.trans (by rw [hk, ea, eb]; rfl))
        rw [h1] at hs
        rw [emp_ok.1 ea, emp_ok.1 eb]
        exact mkR ⟨fun _ => hs.pure (argsR_bare _ _) rfl 0, fun e => (e rfl).elim⟩
      | false =>
        have h1 : rV (dfun Try.prog (orElse (resT 20 [3, 11] [3]) cl0) [(1, false)] noLoops 400 Try.f20 (argsR z 7) 0 no) = .sl 2 0 (resL z 11).length 1 true none := by kernel_rfl
        have h2 : rOk (dfun Try.prog (orElse (resT 20 [3, 11] [3]) cl0) [(1, false)] noLoops 400 Try.f20 (argsR z 7) 0 no) = okT [(!eqb (z 23) 0) == false, emp (resL z 3), !emp (resL z 11), Nat.ble (0 + (resL z 11).length * 1) (resL z 11).length && Nat.ble ((resL z 11).length * 8) 140737488355328 && Nat.ble (resL z 11).length maxLen && Nat.blt 0 (resL z 11).length] true := by kernel_rfl
        have h3 : rS (dfun Try.prog (orElse (resT 20 [3, 11] [3]) cl0) [(1, false)] noLoops 400 Try.f20 (argsR z 7) 0 no) 2 = some ⟨.ints .i64 (((resL z 11).drop 0).take ((resL z 11).length * 1)), true, 3⟩ := by kernel_rfl
        have hp : 0 < (resL z 11).length := List.length_pos_iff.2 (emp_no.1 eb)
        have hs := run_spec hm (hct _) (noLoops_ok _ _ _) Try.func20 (by kernel_rfl) (h2.trans (by
          rw [hk, ea, eb, ble_ok (by omega), ble_ok (by omega), ble_ok (by unfold maxLen; omega), blt_ok hp]; rfl))
        rw [h1] at hs
        rw [dropAll] at h3
        rw [emp_ok.1 ea, List.nil_append]
        exact mkR ⟨fun e => (emp_no.1 eb e).elim, fun _ => ⟨2, _, _, _, hs, h3⟩⟩
    | false => cases eb : emp (resL z 11) with
      | true =>
        have h1 : rV (dfun Try.prog (orElse (resT 20 [3, 11] [11]) cl0) [(1, false)] noLoops 400 Try.f20 (argsR z 7) 0 no) = .sl 1 0 (resL z 3).length 1 true none := by kernel_rfl
        have h2 : rOk (dfun Try.prog (orElse (resT 20 [3, 11] [11]) cl0) [(1, false)] noLoops 400 Try.f20 (argsR z 7) 0 no) = okT [(!eqb (z 23) 0) == false, !emp (resL z 3), emp (resL z 11)] true := by kernel_rfl
        have h3 : rS (dfun Try.prog (orElse (resT 20 [3, 11] [11]) cl0) [(1, false)] noLoops 400 Try.f20 (argsR z 7) 0 no) 1 = some ⟨.ints .i64 (resL z 3), true, 3⟩ := by kernel_rfl
        have hs := run_spec hm (hct _) (noLoops_ok _ _ _) Try.func20 (by kernel_rfl) (h2.trans (by rw [hk, ea, eb]; rfl))
        rw [h1] at hs
        rw [emp_ok.1 eb, List.append_nil]
        exact mkR ⟨fun e => (emp_no.1 ea e).elim, fun _ => ⟨1, _, _, _, hs, h3⟩⟩
      | false =>
        have h1 : rV (dfun Try.prog (orElse (resT 20 [3, 11] []) cl0) [(1, false)] noLoops 400 Try.f20 (argsR z 7) 0 no) = .sl 3 0 ((resL z 3).length + (resL z 11).length) 1 true none := by kernel_rfl
        have h2 : rOk (dfun Try.prog (orElse (resT 20 [3, 11] []) cl0) [(1, false)] noLoops 400 Try.f20 (argsR z 7) 0 no) = okT [(!eqb (z 23) 0) == false, !emp (resL z 3), !emp (resL z 11), Nat.ble ((resL z 3).length * 1) (resL z 3).length && Nat.ble (0 + (resL z 11).length * 1) (resL z 11).length && Nat.ble (((resL z 3).length + (resL z 11).length) * 8) 140737488355328 && Nat.ble ((resL z 3).length + (resL z 11).length) maxLen] true := by kernel_rfl
        have h3 : rS (dfun Try.prog (orElse (resT 20 [3, 11] []) cl0) [(1, false)] noLoops 400 Try.f20 (argsR z 7) 0 no) 3 = some ⟨.ints .i64 ((resL z 3).take ((resL z 3).length * 1) ++ ((resL z 11).drop 0).take ((resL z 11).length * 1)), true, 3⟩ := by kernel_rfl
        have hs := run_spec hm (hct _) (noLoops_ok _ _ _) Try.func20 (by kernel_rfl) (h2.trans (by
          rw [hk, ea, eb, ble_ok (by omega), ble_ok (by omega), ble_ok (by omega), ble_ok (by unfold maxLen; omega)]; rfl))
        rw [h1] at hs
        rw [takeAll, dropAll] at h3
        rw [← List.length_append] at hs
        exact mkR ⟨fun e => (emp_no.1 ea (List.append_eq_nil_iff.1 e).1).elim, fun _ => ⟨3, _, _, _, hs, h3⟩⟩
theorem res20 (j : Nat) (hj : j < 15) (z : Nat → Int) : SpecR 20 z j (resL z j) := by
  match j, hj with
  | 0, _ => exact n20_0 z
  | 1, _ => exact n20_1 z
  | 2, _ => exact n20_2 z
  | 3, _ => exact n20_3 z
  | 4, _ => exact n20_4 z
  | 5, _ => exact n20_5 z
  | 6, _ => exact n20_6 z
  | 7, _ => exact n20_7 z
  | 8, _ => exact n20_8 z
  | 9, _ => exact n20_9 z
  | 10, _ => exact n20_10 z
  | 11, _ => exact n20_11 z
  | 12, _ => exact n20_12 z
  | 13, _ => exact n20_13 z
  | 14, _ => exact n20_14 z
theorem n21_0 (z : Nat → Int) : SpecR 21 z 0 (resL z 0) := by
  have eL : resL z 0 = nodeR (z 1) 0 [] := rfl
  cases hk : eqb (z 1) 0 with
  | true =>
    rw [eL, nodeR_false hk]
    have h1 : rV (dfun Try.prog cl0 [(4, false)] noLoops 400 Try.f21 (argsR z 0) 0 no) = nilV := by kernel_rfl
    have h2 : rOk (dfun Try.prog cl0 [(4, false)] noLoops 400 Try.f21 (argsR z 0) 0 no) = okT [(!eqb (z 1) 0) == false] true := by kernel_rfl
    have hs := run_spec hm cl0_ok (noLoops_ok _ _ _) Try.func21 (by kernel_rfl) (h2.trans (by rw [hk]; rfl))
    rw [h1] at hs
    exact mkR ⟨fun _ => hs.pure (argsR_bare _ _) rfl 0, fun e => (e rfl).elim⟩
  | false =>
    rw [eL, nodeR_true hk]
    have h1 : rV (dfun Try.prog cl0 [(4, true)] noLoops 400 Try.f21 (argsR z 0) 0 no) = .sl 1 0 1 1 true (some 1) := by kernel_rfl
    have h2 : rOk (dfun Try.prog cl0 [(4, true)] noLoops 400 Try.f21 (argsR z 0) 0 no) = okT [(!eqb (z 1) 0) == true] true := by kernel_rfl
    have h3 : rS (dfun Try.prog cl0 [(4, true)] noLoops 400 Try.f21 (argsR z 0) 0 no) 1 = some ⟨.ints .i64 [0], true, 3⟩ := by kernel_rfl
    have hs := run_spec hm cl0_ok (noLoops_ok _ _ _) Try.func21 (by kernel_rfl) (h2.trans (by rw [hk]; rfl))
    rw [h1] at hs
    exact mkR ⟨fun e => (by cases e), fun _ => ⟨1, _, _, _, hs, h3⟩⟩
theorem n21_2 (z : Nat → Int) : SpecR 21 z 2 (resL z 2) := by
  have eL : resL z 2 = nodeR (z 3) 2 [] := rfl
  cases hk : eqb (z 3) 0 with
  | true =>
    rw [eL, nodeR_false hk]
    have h1 : rV (dfun Try.prog cl0 [(4, false)] noLoops 400 Try.f21 (argsR z 2) 0 no) = nilV := by kernel_rfl
    have h2 : rOk (dfun Try.prog cl0 [(4, false)] noLoops 400 Try.f21 (argsR z 2) 0 no) = okT [(!eqb (z 3) 0) == false] true := by kernel_rfl
    have hs := run_spec hm cl0_ok (noLoops_ok _ _ _) Try.func21 (by kernel_rfl) (h2.trans (by rw [hk]; rfl))
    rw [h1] at hs
    exact mkR ⟨fun _ => hs.pure (argsR_bare _ _) rfl 0, fun e => (e rfl).elim⟩
  | false =>
    rw [eL, nodeR_true hk]
    have h1 : rV (dfun Try.prog cl0 [(4, true)] noLoops 400 Try.f21 (argsR z 2) 0 no) = .sl 1 0 1 1 true (some 1) := by kernel_rfl
    have h2 : rOk (dfun Try.prog cl0 [(4, true)] noLoops 400 Try.f21 (argsR z 2) 0 no) = okT [(!eqb (z 3) 0) == true] true := by kernel_rfl
    have h3 : rS (dfun Try.prog cl0 [(4, true)] noLoops 400 Try.f21 (argsR z 2) 0 no) 1 = some ⟨.ints .i64 [2], true, 3⟩ := by kernel_rfl
    have hs := run_spec hm cl0_ok (noLoops_ok _ _ _) Try.func21 (by kernel_rfl) (h2.trans (by rw [hk]; rfl))
    rw [h1] at hs
    exact mkR ⟨fun e => (by cases e), fun _ => ⟨1, _, _, _, hs, h3⟩⟩
theorem n21_4 (z : Nat → Int) : SpecR 21 z 4 (resL z 4) := by
  have eL : resL z 4 = nodeR (z 5) 4 [] := rfl
  cases hk : eqb (z 5) 0 with
  | true =>
    rw [eL, nodeR_false hk]
    have h1 : rV (dfun Try.prog cl0 [(4, false)] noLoops 400 Try.f21 (argsR z 4) 0 no) = nilV := by kernel_rfl
    have h2 : rOk (dfun Try.prog cl0 [(4, false)] noLoops 400 Try.f21 (argsR z 4) 0 no) = okT [(!eqb (z 5) 0) == false] true := by kernel_rfl
    have hs := run_spec hm cl0_ok (noLoops_ok _ _ _) Try.func21 (by kernel_rfl) (h2.trans (by rw [hk]; rfl))
    rw [h1] at hs
    exact mkR ⟨fun _ => hs.pure (argsR_bare _ _) rfl 0, fun e => (e rfl).elim⟩
  | false =>
    rw [eL, nodeR_true hk]
    have h1 : rV (dfun Try.prog cl0 [(4, true)] noLoops 400 Try.f21 (argsR z 4) 0 no) = .sl 1 0 1 1 true (some 1) := by kernel_rfl
    have h2 : rOk (dfun Try.prog cl0 [(4, true)] noLoops 400 Try.f21 (argsR z 4) 0 no) = okT [(!eqb (z 5) 0) == true] true := by kernel_rfl
    have h3 : rS (dfun Try.prog cl0 [(4, true)] noLoops 400 Try.f21 (argsR z 4) 0 no) 1 = some ⟨.ints .i64 [4], true, 3⟩ := by kernel_rfl
    have hs := run_spec hm cl0_ok (noLoops_ok _ _ _) Try.func21 (by kernel_rfl) (h2.trans (by rw [hk]; rfl))
    rw [h1] at hs
    exact mkR ⟨fun e => (by cases e), fun _ => ⟨1, _, _, _, hs, h3⟩⟩
theorem n21_6 (z : Nat → Int) : SpecR 21 z 6 (resL z 6) := by
  have eL : resL z 6 = nodeR (z 7) 6 [] := rfl
  cases hk : eqb (z 7) 0 with
  | true =>
    rw [eL, nodeR_false hk]
    have h1 : rV (dfun Try.prog cl0 [(4, false)] noLoops 400 Try.f21 (argsR z 6) 0 no) = nilV := by kernel_rfl
    have h2 : rOk (dfun Try.prog cl0 [(4, false)] noLoops 400 Try.f21 (argsR z 6) 0 no) = okT [(!eqb (z 7) 0) == false] true := by kernel_rfl
    have hs := run_spec hm cl0_ok (noLoops_ok _ _ _) Try.func21 (by kernel_rfl) (h2.trans (by rw [hk]; rfl))
    rw [h1] at hs
    exact mkR ⟨fun _ => hs.pure (argsR_bare _ _) rfl 0, fun e => (e rfl).elim⟩
  | false =>
    rw [eL, nodeR_true hk]
    have h1 : rV (dfun Try.prog cl0 [(4, true)] noLoops 400 Try.f21 (argsR z 6) 0 no) = .sl 1 0 1 1 true (some 1) := by kernel_rfl
    have h2 : rOk (dfun Try.prog cl0 [(4, true)] noLoops 400 Try.f21 (argsR z 6) 0 no) = okT [(!eqb (z 7) 0) == true] true := by kernel_rfl
    have h3 : rS (dfun Try.prog cl0 [(4, true)] noLoops 400 Try.f21 (argsR z 6) 0 no) 1 = some ⟨.ints .i64 [6], true, 3⟩ := by kernel_rfl
    have hs := run_spec hm cl0_ok (noLoops_ok _ _ _) Try.func21 (by kernel_rfl) (h2.trans (by rw [hk]; rfl))
    rw [h1] at hs
    exact mkR ⟨fun e => (by cases e), fun _ => ⟨1, _, _, _, hs, h3⟩⟩
theorem n21_8 (z : Nat → Int) : SpecR 21 z 8 (resL z 8) := by
  have eL : resL z 8 = nodeR (z 9) 8 [] := rfl
  cases hk : eqb (z 9) 0 with
  | true =>
    rw [eL, nodeR_false hk]
    have h1 : rV (dfun Try.prog cl0 [(4, false)] noLoops 400 Try.f21 (argsR z 8) 0 no) = nilV := by kernel_rfl
    have h2 : rOk (dfun Try.prog cl0 [(4, false)] noLoops 400 Try.f21 (argsR z 8) 0 no) = okT [(!eqb (z 9) 0) == false] true := by kernel_rfl
    have hs := run_spec hm cl0_ok (noLoops_ok _ _ _) Try.func21 (by kernel_rfl) (h2.trans (by rw [hk]; rfl))
    rw [h1] at hs
    exact mkR ⟨fun _ => hs.pure (argsR_bare _ _) rfl 0, fun e => (e rfl).elim⟩
  | false =>
    rw [eL, nodeR_true hk]
    have h1 : rV (dfun Try.prog cl0 [(4, true)] noLoops 400 Try.f21 (argsR z 8) 0 no) = .sl 1 0 1 1 true (some 1) := by kernel_rfl
    have h2 : rOk (dfun Try.prog cl0 [(4, true)] noLoops 400 Try.f21 (argsR z 8) 0 no) = okT [(!eqb (z 9) 0) == true] true := by kernel_rfl
    have h3 : rS (dfun Try.prog cl0 [(4, true)] noLoops 400 Try.f21 (argsR z 8) 0 no) 1 = some ⟨.ints .i64 [8], true, 3⟩ := by kernel_rfl
    have hs := run_spec hm cl0_ok (noLoops_ok _ _ _) Try.func21 (by kernel_rfl) (h2.trans (by rw [hk]; rfl))
    rw [h1] at hs
    exact mkR ⟨fun e => (by cases e), fun _ => ⟨1, _, _, _, hs, h3⟩⟩
theorem n21_10 (z : Nat → Int) : SpecR 21 z 10 (resL z 10) := by
  have eL : resL z 10 = nodeR (z 11) 10 [] := rfl
  cases hk : eqb (z 11) 0 with
  | true =>
    rw [eL, nodeR_false hk]
    have h1 : rV (dfun Try.prog cl0 [(4, false)] noLoops 400 Try.f21 (argsR z 10) 0 no) = nilV := by kernel_rfl
    have h2 : rOk (dfun Try.prog cl0 [(4, false)] noLoops 400 Try.f21 (argsR z 10) 0 no) = okT [(!eqb (z 11) 0) == false] true := by kernel_rfl
    have hs := run_spec hm cl0_ok (noLoops_ok _ _ _) Try.func21 (by kernel_rfl) (h2.trans (by rw [hk]; rfl))
    rw [h1] at hs
    exact mkR ⟨fun _ => hs.pure (argsR_bare _ _) rfl 0, fun e => (e rfl).elim⟩
  | false =>
    rw [eL, nodeR_true hk]
    have h1 : rV (dfun Try.prog cl0 [(4, true)] noLoops 400 Try.f21 (argsR z 10) 0 no) = .sl 1 0 1 1 true (some 1) := by kernel_rfl
    have h2 : rOk (dfun Try.prog cl0 [(4, true)] noLoops 400 Try.f21 (argsR z 10) 0 no) = okT [(!eqb (z 11) 0) == true] true := by kernel_rfl
    have h3 : rS (dfun Try.prog cl0 [(4, true)] noLoops 400 Try.f21 (argsR z 10) 0 no) 1 = some ⟨.ints .i64 [10], true, 3⟩ := by kernel_rfl
    have hs := run_spec hm cl0_ok (noLoops_ok _ _ _) Try.func21 (by kernel_rfl) (h2.trans (by rw [hk]; rfl))
    rw [h1] at hs
    exact mkR ⟨fun e => (by cases e), fun _ => ⟨1, _, _, _, hs, h3⟩⟩
theorem n21_12 (z : Nat → Int) : SpecR 21 z 12 (resL z 12) := by
  have eL : resL z 12 = nodeR (z 13) 12 [] := rfl
  cases hk : eqb (z 13) 0 with
  | true =>
    rw [eL, nodeR_false hk]
    have h1 : rV (dfun Try.prog cl0 [(4, false)] noLoops 400 Try.f21 (argsR z 12) 0 no) = nilV := by kernel_rfl
    have h2 : rOk (dfun Try.prog cl0 [(4, false)] noLoops 400 Try.f21 (argsR z 12) 0 no) = okT [(!eqb (z 13) 0) == false] true := by kernel_rfl
    have hs := run_spec hm cl0_ok (noLoops_ok _ _ _) Try.func21 (by kernel_rfl) (h2.trans (by rw [hk]; rfl))
    rw [h1] at hs
    exact mkR ⟨fun _ => hs.pure (argsR_bare _ _) rfl 0, fun e => (e rfl).elim⟩
  | false =>
    rw [eL, nodeR_true hk]
    have h1 : rV (dfun Try.prog cl0 [(4, true)] noLoops 400 Try.f21 (argsR z 12) 0 no) = .sl 1 0 1 1 true (some 1) := by kernel_rfl
    have h2 : rOk (dfun Try.prog cl0 [(4, true)] noLoops 400 Try.f21 (argsR z 12) 0 no) = okT [(!eqb (z 13) 0) == true] true := by kernel_rfl
    have h3 : rS (dfun Try.prog cl0 [(4, true)] noLoops 400 Try.f21 (argsR z 12) 0 no) 1 = some ⟨.ints .i64 [12], true, 3⟩ := by kernel_rfl
    have hs := run_spec hm cl0_ok (noLoops_ok _ _ _) Try.func21 (by kernel_rfl) (h2.trans (by rw [hk]; rfl))
    rw [h1] at hs
    exact mkR ⟨fun e => (by cases e), fun _ => ⟨1, _, _, _, hs, h3⟩⟩
theorem n21_14 (z : Nat → Int) : SpecR 21 z 14 (resL z 14) := by
  have eL : resL z 14 = nodeR (z 15) 14 [] := rfl
  cases hk : eqb (z 15) 0 with
  | true =>
    rw [eL, nodeR_false hk]
    have h1 : rV (dfun Try.prog cl0 [(4, false)] noLoops 400 Try.f21 (argsR z 14) 0 no) = nilV := by kernel_rfl
    have h2 : rOk (dfun Try.prog cl0 [(4, false)] noLoops 400 Try.f21 (argsR z 14) 0 no) = okT [(!eqb (z 15) 0) == false] true := by kernel_rfl
    have hs := run_spec hm cl0_ok (noLoops_ok _ _ _) Try.func21 (by kernel_rfl) (h2.trans (by rw [hk]; rfl))
    rw [h1] at hs
    exact mkR ⟨fun _ => hs.pure (argsR_bare _ _) rfl 0, fun e => (e rfl).elim⟩
  | false =>
    rw [eL, nodeR_true hk]
    have h1 : rV (dfun Try.prog cl0 [(4, true)] noLoops 400 Try.f21 (argsR z 14) 0 no) = .sl 1 0 1 1 true (some 1) := by kernel_rfl
    have h2 : rOk (dfun Try.prog cl0 [(4, true)] noLoops 400 Try.f21 (argsR z 14) 0 no) = okT [(!eqb (z 15) 0) == true] true := by kernel_rfl
    have h3 : rS (dfun Try.prog cl0 [(4, true)] noLoops 400 Try.f21 (argsR z 14) 0 no) 1 = some ⟨.ints .i64 [14], true, 3⟩ := by kernel_rfl
    have hs := run_spec hm cl0_ok (noLoops_ok _ _ _) Try.func21 (by kernel_rfl) (h2.trans (by rw [hk]; rfl))
    rw [h1] at hs
    exact mkR ⟨fun e => (by cases e), fun _ => ⟨1, _, _, _, hs, h3⟩⟩
theorem n21_1 (z : Nat → Int) : SpecR 21 z 1 (resL z 1) := by
  have H : ∀ i, [0, 2].contains i = true → ∀ z, SpecR 21 z i (resL z i) := by
    intro i hi z
    simp at hi
    rcases hi with rfl | rfl
    · exact n21_0 z
    · exact n21_2 z
  have hct : ∀ nils, CTOk Try.prog (orElse (resT 21 [0, 2] nils) cl0) := fun nils => orElse_ok (resT_ok H) cl0_ok
  have eL : resL z 1 = nodeR (z 17) 1 (resL z 0 ++ resL z 2) := rfl
  have la : (resL z 0).length ≤ 1 := len0 z
  have lb : (resL z 2).length ≤ 1 := len2 z
  cases hk : eqb (z 17) 0 with
  | false =>
    rw [eL, nodeR_true hk]
    have h1 : rV (dfun Try.prog (orElse (resT 21 [0, 2] []) cl0) [(4, true)] noLoops 400 Try.f21 (argsR z 1) 0 no) = .sl 1 0 1 1 true (some 1) := by kernel_rfl
    have h2 : rOk (dfun Try.prog (orElse (resT 21 [0, 2] []) cl0) [(4, true)] noLoops 400 Try.f21 (argsR z 1) 0 no) = okT [(!eqb (z 17) 0) == true] true := by kernel_rfl
    have h3 : rS (dfun Try.prog (orElse (resT 21 [0, 2] []) cl0) [(4, true)] noLoops 400 Try.f21 (argsR z 1) 0 no) 1 = some ⟨.ints .i64 [1], true, 3⟩ := by kernel_rfl
    have hs := run_spec hm (hct _) (noLoops_ok _ _ _) Try.func21 (by kernel_rfl) (h2.trans (by rw [hk]; rfl))
    rw [h1] at hs
    exact mkR ⟨fun e => (by cases e), fun _ => ⟨1, _, _, _, hs, h3⟩⟩
  | true =>
    rw [eL, nodeR_false hk]
    cases ea : emp (resL z 0) with
    | true => cases eb : emp (resL z 2) with
      | true =>
        have h1 : rV (dfun Try.prog (orElse (resT 21 [0, 2] [0, 2]) cl0) [(4, false)] noLoops 400 Try.f21 (argsR z 1) 0 no) = nilV := by kernel_rfl
        have h2 : rOk (dfun Try.prog (orElse (resT 21 [0, 2] [0, 2]) cl0) [(4, false)] noLoops 400 Try.f21 (argsR z 1) 0 no) = okT [(!eqb (z 17) 0) == false, emp (resL z 0), emp (resL z 2)] true := by kernel_rfl
        have hs := run_spec hm (hct _) (noLoops_ok _ _ _) Try.func21 (by kernel_rfl) (h2.trans (by rw [hk, ea, eb]; rfl))
        rw [h1] at hs
        rw [emp_ok.1 ea, emp_ok.1 eb]
        exact mkR ⟨fun _ => hs.pure (argsR_bare _ _) rfl 0, fun e => (e rfl).elim⟩
      | false =>
        have h1 : rV (dfun Try.prog (orElse (resT 21 [0, 2] [0]) cl0) [(4, false)] noLoops 400 Try.f21 (argsR z 1) 0 no) = .sl 2 0 (resL z 2).length 1 true none := by kernel_rfl
        have h2 : rOk (dfun Try.prog (orElse (resT 21 [0, 2] [0]) cl0) [(4, false)] noLoops 400 Try.f21 (argsR z 1) 0 no) = okT [(!eqb (z 17) 0) == false, emp (resL z 0), !emp (resL z 2), Nat.ble (0 + (resL z 2).length * 1) (resL z 2).length && Nat.ble ((resL z 2).length * 8) 140737488355328 && Nat.ble (resL z 2).length maxLen && Nat.blt 0 (resL z 2).length] true := by kernel_rfl
        have h3 : rS (dfun Try.prog (orElse (resT 21 [0, 2] [0]) cl0) [(4, false)] noLoops 400 Try.f21 (argsR z 1) 0 no) 2 = some ⟨.ints .i64 (((resL z 2).drop 0).take ((resL z 2).length * 1)), true, 3⟩ := by kernel_rfl
        have hp : 0 < (resL z 2).length := List.length_pos_iff.2 (emp_no.1 eb)
        have hs := run_spec hm (hct _) (noLoops_ok _ _ _) Try.func21 (by kernel_rfl) (h2.trans (by
          rw [hk, ea, eb, ble_ok (by omega), ble_ok (by omega), ble_ok (by unfold maxLen; omega), blt_ok hp]; rfl))
        rw [h1] at hs
        rw [dropAll] at h3
        rw [emp_ok.1 ea, List.nil_append]
        exact mkR ⟨fun e => (emp_no.1 eb e).elim, fun _ => ⟨2, _, _, _, hs, h3⟩⟩
    | false => cases eb : emp (resL z 2) with
      | true =>
        have h1 : rV (dfun Try.prog (orElse (resT 21 [0, 2] [2]) cl0) [(4, false)] noLoops 400 Try.f21 (argsR z 1) 0 no) = .sl 1 0 (resL z 0).length 1 true none := by kernel_rfl
        have h2 : rOk (dfun Try.prog (orElse (resT 21 [0, 2] [2]) cl0) [(4, false)] noLoops 400 Try.f21 (argsR z 1) 0 no) = okT [(!eqb (z 17) 0) == false, !emp (resL z 0), emp (resL z 2)] true := by kernel_rfl
        have h3 : rS (dfun Try.prog (orElse (resT 21 [0, 2] [2]) cl0) [(4, false)] noLoops 400 Try.f21 (argsR z 1) 0 no) 1 = some ⟨.ints .i64 (resL z 0), true, 3⟩ := by kernel_rfl
        have hs := run_spec hm (hct _) (noLoops_ok _ _ _) Try.func21 (by kernel_rfl) (h2.trans (by rw [hk, ea, eb]; rfl))
        rw [h1] at hs
        rw [emp_ok.1 eb, List.append_nil]
        exact mkR ⟨fun e => (emp_no.1 ea e).elim, fun _ => ⟨1, _, _, _, hs, h3⟩⟩
      | false =>
        have h1 : rV (dfun Try.prog (orElse (resT 21 [0, 2] []) cl0) [(4, false)] noLoops 400 Try.f21 (argsR z 1) 0 no) = .sl 3 0 ((resL z 0).length + (resL z 2).length) 1 true none := by kernel_rfl
        have h2 : rOk (dfun Try.prog (orElse (resT 21 [0, 2] []) cl0) [(4, false)] noLoops 400 Try.f21 (argsR z 1) 0 no) = okT [(!eqb (z 17) 0) == false, !emp (resL z 0), !emp (resL z 2), Nat.ble ((resL z 0).length * 1) (resL z 0).length && Nat.ble (0 + (resL z 2).length * 1) (resL z 2).length && Nat.ble (((resL z 0).length + (resL z 2).length) * 8) 140737488355328 && Nat.ble ((resL z 0).length + (resL z 2).length) maxLen] true := by kernel_rfl
        have h3 : rS (dfun Try.prog (orElse (resT 21 [0, 2] []) cl0) [(4, false)] noLoops 400 Try.f21 (argsR z 1) 0 no) 3 = some ⟨.ints .i64 ((resL z 0).take ((resL z 0).length * 1) ++ ((resL z 2).drop 0).take ((resL z 2).length * 1)), true, 3⟩ := by kernel_rfl
        have hs := run_spec hm (hct _) (noLoops_ok _ _ _) Try.func21 (by kernel_rfl) (h2.trans (by
          rw [hk, ea, eb, ble_ok (by omega), ble_ok (by omega), ble_ok (by omega), ble_ok (by unfold maxLen; omega)]; rfl))
        rw [h1] at hs
        rw [takeAll, dropAll] at h3
        rw [← List.length_append] at hs
        exact mkR ⟨fun e => (emp_no.1 ea (List.append_eq_nil_iff.1 e).1).elim, fun _ => ⟨3, _, _, _, hs, h3⟩⟩
theorem n21_5 (z : Nat → Int) : SpecR 21 z 5 (resL z 5) := by
  have H : ∀ i, [4, 6].contains i = true → ∀ z, SpecR 21 z i (resL z i) := by
    intro i hi z
    simp at hi
    rcases hi with rfl | rfl
    · exact n21_4 z
    · exact n21_6 z
  have hct : ∀ nils, CTOk Try.prog (orElse (resT 21 [4, 6] nils) cl0) := fun nils => orElse_ok (resT_ok H) cl0_ok
  have eL : resL z 5 = nodeR (z 21) 5 (resL z 4 ++ resL z 6) := rfl
  have la : (resL z 4).length ≤ 1 := len4 z
  have lb : (resL z 6).length ≤ 1 := len6 z
  cases hk : eqb (z 21) 0 with
  | false =>
    rw [eL, nodeR_true hk]
    have h1 : rV (dfun Try.prog (orElse (resT 21 [4, 6] []) cl0) [(4, true)] noLoops 400 Try.f21 (argsR z 5) 0 no) = .sl 1 0 1 1 true (some 1) := by kernel_rfl
    have h2 : rOk (dfun Try.prog (orElse (resT 21 [4, 6] []) cl0) [(4, true)] noLoops 400 Try.f21 (argsR z 5) 0 no) = okT [(!eqb (z 21) 0) == true] true := by kernel_rfl
    have h3 : rS (dfun Try.prog (orElse (resT 21 [4, 6] []) cl0) [(4, true)] noLoops 400 Try.f21 (argsR z 5) 0 no) 1 = some ⟨.ints .i64 [5], true, 3⟩ := by kernel_rfl
    have hs := run_spec hm (hct _) (noLoops_ok _ _ _) Try.func21 (by kernel_rfl) (h2.trans (by rw [hk]; rfl))
    rw [h1] at hs
    exact mkR ⟨fun e => (by cases e), fun _ => ⟨1, _, _, _, hs, h3⟩⟩
  | true =>
    rw [eL, nodeR_false hk]
    cases ea : emp (resL z 4) with
    | true => cases eb : emp (resL z 6) with
      | true =>
        have h1 : rV (dfun Try.prog (orElse (resT 21 [4, 6] [4, 6]) cl0) [(4, false)] noLoops 400 Try.f21 (argsR z 5) 0 no) = nilV := by kernel_rfl
        have h2 : rOk (dfun Try.prog (orElse (resT 21 [4, 6] [4, 6]) cl0) [(4, false)] noLoops 400 Try.f21 (argsR z 5) 0 no) = okT [(!eqb (z 21) 0) == false, emp (resL z 4), emp (resL z 6)] true := by kernel_rfl
        have hs := run_spec hm (hct _) (noLoops_ok _ _ _) Try.func21 (by kernel_rfl) (h2.trans (by rw [hk, ea, eb]; rfl))
        rw [h1] at hs
        rw [emp_ok.1 ea, emp_ok.1 eb]
        exact mkR ⟨fun _ => hs.pure (argsR_bare _ _) rfl 0, fun e => (e rfl).elim⟩
      | false =>
        have h1 : rV (dfun Try.prog (orElse (resT 21 [4, 6] [4]) cl0) [(4, false)] noLoops 400 Try.f21 (argsR z 5) 0 no) = .sl 2 0 (resL z 6).length 1 true none := by kernel_rfl
        have h2 : rOk (dfun Try.prog (orElse (resT 21 [4, 6] [4]) cl0) [(4, false)] noLoops 400 Try.f21 (argsR z 5) 0 no) = okT [(!eqb (z 21) 0) == false, emp (resL z 4), !emp (resL z 6), Nat.ble (0 + (resL z 6).length * 1) (resL z 6).length && Nat.ble ((resL z 6).length * 8) 140737488355328 && Nat.ble (resL z 6).length maxLen && Nat.blt 0 (resL z 6).length] true := by kernel_rfl
        have h3 : rS (dfun Try.prog (orElse (resT 21 [4, 6] [4]) cl0) [(4, false)] noLoops 400 Try.f21 (argsR z 5) 0 no) 2 = some ⟨.ints .i64 (((resL z 6).drop 0).take ((resL z 6).length * 1)), true, 3⟩ := by kernel_rfl
        have hp : 0 < (resL z 6).length := List.length_pos_iff.2 (emp_no.1 eb)
        have hs := run_spec hm (hct _) (noLoops_ok _ _ _) Try.func21 (by kernel_rfl) (h2.trans (by
          rw [hk, ea, eb, ble_ok (by omega), ble_ok (by omega), ble_ok (by unfold maxLen; omega), blt_ok hp]; rfl))
        rw [h1] at hs
        rw [dropAll] at h3
        rw [emp_ok.1 ea, List.nil_append]
        exact mkR ⟨fun e => (emp_no.1 eb e).elim, fun _ => ⟨2, _, _, _, hs, h3⟩⟩
    | false => cases eb : emp (resL z 6) with
      | true =>
        have h1 : rV (dfun Try.prog (orElse (resT 21 [4, 6] [6]) cl0) [(4, false)] noLoops 400 Try.f21 (argsR z 5) 0 no) = .sl 1 0 (resL z 4).length 1 true none := by kernel_rfl
        have h2 : rOk (dfun Try.prog (orElse (resT 21 [4, 6] [6]) cl0) [(4, false)] noLoops 400 Try.f21 (argsR z 5) 0 no) = okT [(!eqb (z 21) 0) == false, !emp (resL z 4), emp (resL z 6)] true := by kernel_rfl
        have h3 : rS (dfun Try.prog (orElse (resT 21 [4, 6] [6]) cl0) [(4, false)] noLoops 400 Try.f21 (argsR z 5) 0 no) 1 = some ⟨.ints .i64 (resL z 4), true, 3⟩ := by kernel_rfl
        have hs := run_spec hm (hct _) (noLoops_ok _ _ _) Try.func21 (by kernel_rfl) (h2.trans (by rw [hk, ea, eb]; rfl))
        rw [h1] at hs
        rw [emp_ok.1 eb, List.append_nil]
        exact mkR ⟨fun e => (emp_no.1 ea e).elim, fun _ => ⟨1, _, _, _, hs, h3⟩⟩
      | false =>
        have h1 : rV (dfun Try.prog (orElse (resT 21 [4, 6] []) cl0) [(4, false)] noLoops 400 Try.f21 (argsR z 5) 0 no) = .sl 3 0 ((resL z 4).length + (resL z 6).length) 1 true none := by kernel_rfl
        have h2 : rOk (dfun Try.prog (orElse (resT 21 [4, 6] []) cl0) [(4, false)] noLoops 400 Try.f21 (argsR z 5) 0 no) = okT [(!eqb (z 21) 0) == false, !emp (resL z 4), !emp (resL z 6), Nat.ble ((resL z 4).length * 1) (resL z 4).length && Nat.ble (0 + (resL z 6).length * 1) (resL z 6).length && Nat.ble (((resL z 4).length + (resL z 6).length) * 8) 140737488355328 && Nat.ble ((resL z 4).length + (resL z 6).length) maxLen] true := by kernel_rfl
        have h3 : rS (dfun Try.prog (orElse (resT 21 [4, 6] []) cl0) [(4, false)] noLoops 400 Try.f21 (argsR z 5) 0 no) 3 = some ⟨.ints .i64 ((resL z 4).take ((resL z 4).length * 1) ++ ((resL z 6).drop 0).take ((resL z 6).length * 1)), true, 3⟩ := by kernel_rfl
        have hs := run_spec hm (hct _) (noLoops_ok _ _ _) Try.func21 (by kernel_rfl) (h2.trans (by
          rw [hk, ea, eb, ble_ok (by omega), ble_ok (by omega), ble_ok (by omega), ble_ok (by unfold maxLen; omega)]; rfl))
        rw [h1] at hs
        rw [takeAll, dropAll] at h3
        rw [← List.length_append] at hs
        exact mkR ⟨fun e => (emp_no.1 ea (List.append_eq_nil_iff.1 e).1).elim, fun _ => ⟨3, _, _, _, hs, h3⟩⟩
theorem n21_9 (z : Nat → Int) : SpecR 21 z 9 (resL z 9) := by
  have H : ∀ i, [8, 10].contains i = true → ∀ z, SpecR 21 z i (resL z i) := by
    intro i hi z
    simp at hi
    rcases hi with rfl | rfl
    · exact n21_8 z
    · exact n21_10 z
  have hct : ∀ nils, CTOk Try.prog (orElse (resT 21 [8, 10] nils) cl0) := fun nils => orElse_ok (resT_ok H) cl0_ok
  have eL : resL z 9 = nodeR (z 25) 9 (resL z 8 ++ resL z 10) := rfl
  have la : (resL z 8).length ≤ 1 := len8 z
  have lb : (resL z 10).length ≤ 1 := len10 z
  cases hk : eqb (z 25) 0 with
  | false =>
    rw [eL, nodeR_true hk]
    have h1 : rV (dfun Try.prog (orElse (resT 21 [8, 10] []) cl0) [(4, true)] noLoops 400 Try.f21 (argsR z 9) 0 no) = .sl 1 0 1 1 true (some 1) := by kernel_rfl
    have h2 : rOk (dfun Try.prog (orElse (resT 21 [8, 10] []) cl0) [(4, true)] noLoops 400 Try.f21 (argsR z 9) 0 no) = okT [(!eqb (z 25) 0) == true] true := by kernel_rfl
    have h3 : rS (dfun Try.prog (orElse (resT 21 [8, 10] []) cl0) [(4, true)] noLoops 400 Try.f21 (argsR z 9) 0 no) 1 = some ⟨.ints .i64 [9], true, 3⟩ := by kernel_rfl
    have hs := run_spec hm (hct _) (noLoops_ok _ _ _) Try.func21 (by kernel_rfl) (h2.trans (by rw [hk]; rfl))
    rw [h1] at hs
    exact mkR ⟨fun e => (by cases e), fun _ => ⟨1, _, _, _, hs, h3⟩⟩
  | true =>
    rw [eL, nodeR_false hk]
    cases ea : emp (resL z 8) with
    | true => cases eb : emp (resL z 10) with
      | true =>
        have h1 : rV (dfun Try.prog (orElse (resT 21 [8, 10] [8, 10]) cl0) [(4, false)] noLoops 400 Try.f21 (argsR z 9) 0 no) = nilV := by kernel_rfl
        have h2 : rOk (dfun Try.prog (orElse (resT 21 [8, 10] [8, 10]) cl0) [(4, false)] noLoops 400 Try.f21 (argsR z 9) 0 no) = okT [(!eqb (z 25) 0) == false, emp (resL z 8), emp (resL z 10)] true := by kernel_rfl
        have hs := run_spec hm (hct _) (noLoops_ok _ _ _) Try.func21 (by kernel_rfl) (h2.trans (by rw [hk, ea, eb]; rfl))
        rw [h1] at hs
        rw [emp_ok.1 ea, emp_ok.1 eb]
        exact mkR ⟨fun _ => hs.pure (argsR_bare _ _) rfl 0, fun e => (e rfl).elim⟩
      | false =>
        have h1 : rV (dfun Try.prog (orElse (resT 21 [8, 10] [8]) cl0) [(4, false)] noLoops 400 Try.f21 (argsR z 9) 0 no) = .sl 2 0 (resL z 10).length 1 true none := by kernel_rfl
        have h2 : rOk (dfun Try.prog (orElse (resT 21 [8, 10] [8]) cl0) [(4, false)] noLoops 400 Try.f21 (argsR z 9) 0 no) = okT [(!eqb (z 25) 0) == false, emp (resL z 8), !emp (resL z 10), Nat.ble (0 + (resL z 10).length * 1) (resL z 10).length && Nat.ble ((resL z 10).length * 8) 140737488355328 && Nat.ble (resL z 10).length maxLen && Nat.blt 0 (resL z 10).length] true := by kernel_rfl
        have h3 : rS (dfun Try.prog (orElse (resT 21 [8, 10] [8]) cl0) [(4, false)] noLoops 400 Try.f21 (argsR z 9) 0 no) 2 = some ⟨.ints .i64 (((resL z 10).drop 0).take ((resL z 10).length * 1)), true, 3⟩ := by kernel_rfl
        have hp : 0 < (resL z 10).length := List.length_pos_iff.2 (emp_no.1 eb)
        have hs := run_spec hm (hct _) (noLoops_ok _ _ _) Try.func21 (by kernel_rfl) (h2.trans (by
          rw [hk, ea, eb, ble_ok (by omega), ble_ok (by omega), ble_ok (by unfold maxLen; omega), blt_ok hp]; rfl))
        rw [h1] at hs
        rw [dropAll] at h3
        rw [emp_ok.1 ea, List.nil_append]
        exact mkR ⟨fun e => (emp_no.1 eb e).elim, fun _ => ⟨2, _, _, _, hs, h3⟩⟩
    | false => cases eb : emp (resL z 10) with
      | true =>
        have h1 : rV (dfun Try.prog (orElse (resT 21 [8, 10] [10]) cl0) [(4, false)] noLoops 400 Try.f21 (argsR z 9) 0 no) = .sl 1 0 (resL z 8).length 1 true none := by kernel_rfl
        have h2 : rOk (dfun Try.prog (orElse (resT 21 [8, 10] [10]) cl0) [(4, false)] noLoops 400 Try.f21 (argsR z 9) 0 no) = okT [(!eqb (z 25) 0) == false, !emp (resL z 8), emp (resL z 10)] true := by kernel_rfl
        have h3 : rS (dfun Try.prog (orElse (resT 21 [8, 10] [10]) cl0) [(4, false)] noLoops 400 Try.f21 (argsR z 9) 0 no) 1 = some ⟨.ints .i64 (resL z 8), true, 3⟩ := by kernel_rfl
        have hs := run_spec hm (hct _) (noLoops_ok _ _ _) Try.func21 (by kernel_rfl) (h2.trans (by rw [hk, ea, eb]; rfl))
        rw [h1] at hs
        rw [emp_ok.1 eb, List.append_nil]
        exact mkR ⟨fun e => (emp_no.1 ea e).elim, fun _ => ⟨1, _, _, _, hs, h3⟩⟩
      | false =>
        have h1 : rV (dfun Try.prog (orElse (resT 21 [8, 10] []) cl0) [(4, false)] noLoops 400 Try.f21 (argsR z 9) 0 no) = .sl 3 0 ((resL z 8).length + (resL z 10).length) 1 true none := by kernel_rfl
        have h2 : rOk (dfun Try.prog (orElse (resT 21 [8, 10] []) cl0) [(4, false)] noLoops 400 Try.f21 (argsR z 9) 0 no) = okT [(!eqb (z 25) 0) == false, !emp (resL z 8), !emp (resL z 10), Nat.ble ((resL z 8).length * 1) (resL z 8).length && Nat.ble (0 + (resL z 10).length * 1) (resL z 10).length && Nat.ble (((resL z 8).length + (resL z 10).length) * 8) 140737488355328 && Nat.ble ((resL z 8).length + (resL z 10).length) maxLen] true := by kernel_rfl
        have h3 : rS (dfun Try.prog (orElse (resT 21 [8, 10] []) cl0) [(4, false)] noLoops 400 Try.f21 (argsR z 9) 0 no) 3 = some ⟨.ints .i64 ((resL z 8).take ((resL z 8).length * 1) ++ ((resL z 10).drop 0).take ((resL z 10).length * 1)), true, 3⟩ := by kernel_rfl
        have hs := run_spec hm (hct _) (noLoops_ok _ _ _) Try.func21 (by kernel_rfl) (h2.trans (by
          rw [hk, ea, eb, ble_ok (by omega), ble_ok (by omega), ble_ok (by omega), ble_ok (by unfold maxLen; omega)]; rfl))
        rw [h1] at hs
        rw [takeAll, dropAll] at h3
        rw [← List.length_append] at hs
        exact mkR ⟨fun e => (emp_no.1 ea (List.append_eq_nil_iff.1 e).1).elim, fun _ => ⟨3, _, _, _, hs, h3⟩⟩
theorem n21_13 (z : Nat → Int) : SpecR 21 z 13 (resL z 13) := by
  have H : ∀ i, [12, 14].contains i = true → ∀ z, SpecR 21 z i (resL z i) := by
    intro i hi z
    simp at hi
    rcases hi with rfl | rfl
    · exact n21_12 z
    · exact n21_14 z
  have hct : ∀ nils, CTOk Try.prog (orElse (resT 21 [12, 14] nils) cl0) := fun nils => orElse_ok (resT_ok H) cl0_ok
  have eL : resL z 13 = nodeR (z 29) 13 (resL z 12 ++ resL z 14) := rfl
  have la : (resL z 12).length ≤ 1 := len12 z
  have lb : (resL z 14).length ≤ 1 := len14 z
  cases hk : eqb (z 29) 0 with
  | false =>
    rw [eL, nodeR_true hk]
    have h1 : rV (dfun Try.prog (orElse (resT 21 [12, 14] []) cl0) [(4, true)] noLoops 400 Try.f21 (argsR z 13) 0 no) = .sl 1 0 1 1 true (some 1) := by kernel_rfl
    have h2 : rOk (dfun Try.prog (orElse (resT 21 [12, 14] []) cl0) [(4, true)] noLoops 400 Try.f21 (argsR z 13) 0 no) = okT [(!eqb (z 29) 0) == true] true := by kernel_rfl
    have h3 : rS (dfun Try.prog (orElse (resT 21 [12, 14] []) cl0) [(4, true)] noLoops 400 Try.f21 (argsR z 13) 0 no) 1 = some ⟨.ints .i64 [13], true, 3⟩ := by kernel_rfl
    have hs := run_spec hm (hct _) (noLoops_ok _ _ _) Try.func21 (by kernel_rfl) (h2.trans (by rw [hk]; rfl))
    rw [h1] at hs
    exact mkR ⟨fun e => (by cases e), fun _ => ⟨1, _, _, _, hs, h3⟩⟩
  | true =>
    rw [eL, nodeR_false hk]
    cases ea : emp (resL z 12) with
    | true => cases eb : emp (resL z 14) with
      | true =>
        have h1 : rV (dfun Try.prog (orElse (resT 21 [12, 14] [12, 14]) cl0) [(4, false)] noLoops 400 Try.f21 (argsR z 13) 0 no) = nilV := by kernel_rfl
        have h2 : rOk (dfun Try.prog (orElse (resT 21 [12, 14] [12, 14]) cl0) [(4, false)] noLoops 400 Try.f21 (argsR z 13) 0 no) = okT [(!eqb (z 29) 0) == false, emp (resL z 12), emp (resL z 14)] true := by kernel_rfl
        have hs := run_spec hm (hct _) (noLoops_ok _ _ _) Try.func21 (by kernel_rfl) (h2.trans (by rw [hk, ea, eb]; rfl))
        rw [h1] at hs
        rw [emp_ok.1 ea, emp_ok.1 eb]
        exact mkR ⟨fun _ => hs.pure (argsR_bare _ _) rfl 0, fun e => (e rfl).elim⟩
      | false =>
        have h1 : rV (dfun Try.prog (orElse (resT 21 [12, 14] [12]) cl0) [(4, false)] noLoops 400 Try.f21 (argsR z 13) 0 no) = .sl 2 0 (resL z 14).length 1 true none := by kernel_rfl
        have h2 : rOk (dfun Try.prog (orElse (resT 21 [12, 14] [12]) cl0) [(4, false)] noLoops 400 Try.f21 (argsR z 13) 0 no) = okT [(!eqb (z 29) 0) == false, emp (resL z 12), !emp (resL z 14), Nat.ble (0 + (resL z 14).length * 1) (resL z 14).length && Nat.ble ((resL z 14).length * 8) 140737488355328 && Nat.ble (resL z 14).length maxLen && Nat.blt 0 (resL z 14).length] true := by kernel_rfl
        have h3 : rS (dfun Try.prog (orElse (resT 21 [12, 14] [12]) cl0) [(4, false)] noLoops 400 Try.f21 (argsR z 13) 0 no) 2 = some ⟨.ints .i64 (((resL z 14).drop 0).take ((resL z 14).length * 1)), true, 3⟩ := by kernel_rfl
        have hp : 0 < (resL z 14).length := List.length_pos_iff.2 (emp_no.1 eb)
        have hs := run_spec hm (hct _) (noLoops_ok _ _ _) Try.func21 (by kernel_rfl) (h2.trans (by
          rw [hk, ea, eb, ble_ok (by omega), ble_ok (by omega), ble_ok (by unfold maxLen; omega), blt_ok hp]; rfl))
        rw [h1] at hs
        rw [dropAll] at h3
        rw [emp_ok.1 ea, List.nil_append]
        exact mkR ⟨fun e => (emp_no.1 eb e).elim, fun _ => ⟨2, _, _, _, hs, h3⟩⟩
    | false => cases eb : emp (resL z 14) with
      | true =>
        have h1 : rV (dfun Try.prog (orElse (resT 21 [12, 14] [14]) cl0) [(4, false)] noLoops 400 Try.f21 (argsR z 13) 0 no) = .sl 1 0 (resL z 12).length 1 true none := by kernel_rfl
        have h2 : rOk (dfun Try.prog (orElse (resT 21 [12, 14] [14]) cl0) [(4, false)] noLoops 400 Try.f21 (argsR z 13) 0 no) = okT [(!eqb (z 29) 0) == false, !emp (resL z 12), emp (resL z 14)] true := by kernel_rfl
        have h3 : rS (dfun Try.prog (orElse (resT 21 [12, 14] [14]) cl0) [(4, false)] noLoops 400 Try.f21 (argsR z 13) 0 no) 1 = some ⟨.ints .i64 (resL z 12), true, 3⟩ := by kernel_rfl
        have hs := run_spec hm (hct _) (noLoops_ok _ _ _) Try.func21 (by kernel_rfl) (h2.trans (by rw [hk, ea, eb]; rfl))
        rw [h1] at hs
        rw [emp_ok.1 eb, List.append_nil]
        exact mkR ⟨fun e => (emp_no.1 ea e).elim, fun _ => ⟨1, _, _, _, hs, h3⟩⟩
      | false =>
        have h1 : rV (dfun Try.prog (orElse (resT 21 [12, 14] []) cl0) [(4, false)] noLoops 400 Try.f21 (argsR z 13) 0 no) = .sl 3 0 ((resL z 12).length + (resL z 14).length) 1 true none := by kernel_rfl
        have h2 : rOk (dfun Try.prog (orElse (resT 21 [12, 14] []) cl0) [(4, false)] noLoops 400 Try.f21 (argsR z 13) 0 no) = okT [(!eqb (z 29) 0) == false, !emp (resL z 12), !emp (resL z 14), Nat.ble ((resL z 12).length * 1) (resL z 12).length && Nat.ble (0 + (resL z 14).length * 1) (resL z 14).length && Nat.ble (((resL z 12).length + (resL z 14).length) * 8) 140737488355328 && Nat.ble ((resL z 12).length + (resL z 14).length) maxLen] true := by kernel_rfl
        have h3 : rS (dfun Try.prog (orElse (resT 21 [12, 14] []) cl0) [(4, false)] noLoops 400 Try.f21 (argsR z 13) 0 no) 3 = some ⟨.ints .i64 ((resL z 12).take ((resL z 12).length * 1) ++ ((resL z 14).drop 0).take ((resL z 14).length * 1)), true, 3⟩ := by kernel_rfl
        have hs := run_spec hm (hct _) (noLoops_ok _ _ _) Try.func21 (by kernel_rfl) (h2.trans (by
          rw [hk, ea, eb, ble_ok (by omega), ble_ok (by omega), ble_ok (by omega), ble_ok (by unfold maxLen; omega)]; rfl))
        rw [h1] at hs
        rw [takeAll, dropAll] at h3
        rw [← List.length_append] at hs
        exact mkR ⟨fun e => (emp_no.1 ea (List.append_eq_nil_iff.1 e).1).elim, fun _ => ⟨3, _, _, _, hs, h3⟩⟩
theorem n21_3 (z : Nat → Int) : SpecR 21 z 3 (resL z 3) := by
  have H : ∀ i, [1, 5].contains i = true → ∀ z, SpecR 21 z i (resL z i) := by
    intro i hi z
    simp at hi
    rcases hi with rfl | rfl
    · exact n21_1 z
    · exact n21_5 z
  have hct : ∀ nils, CTOk Try.prog (orElse (resT 21 [1, 5] nils) cl0) := fun nils => orElse_ok (resT_ok H) cl0_ok
  have eL : resL z 3 = nodeR (z 19) 3 (resL z 1 ++ resL z 5) := rfl
  have la : (resL z 1).length ≤ 2 := len1 z
  have lb : (resL z 5).length ≤ 2 := len5 z
  cases hk : eqb (z 19) 0 with
  | false =>
    rw [eL, nodeR_true hk]
    have h1 : rV (dfun Try.prog (orElse (resT 21 [1, 5] []) cl0) [(4, true)] noLoops 400 Try.f21 (argsR z 3) 0 no) = .sl 1 0 1 1 true (some 1) := by kernel_rfl
    have h2 : rOk (dfun Try.prog (orElse (resT 21 [1, 5] []) cl0) [(4, true)] noLoops 400 Try.f21 (argsR z 3) 0 no) = okT [(!eqb (z 19) 0) == true] true := by kernel_rfl
    have h3 : rS (dfun Try.prog (orElse (resT 21 [1, 5] []) cl0) [(4, true)] noLoops 400 Try.f21 (argsR z 3) 0 no) 1 = some ⟨.ints .i64 [3], true, 3⟩ := by kernel_rfl
    have hs := run_spec hm (hct _) (noLoops_ok _ _ _) Try.func21 (by kernel_rfl) (h2.trans (by rw [hk]; rfl))
    rw [h1] at hs
    exact mkR ⟨fun e => (by cases e), fun _ => ⟨1, _, _, _, hs, h3⟩⟩
  | true =>
    rw [eL, nodeR_false hk]
    cases ea : emp (resL z 1) with
    | true => cases eb : emp (resL z 5) with
      | true =>
        have h1 : rV (dfun Try.prog (orElse (resT 21 [1, 5] [1, 5]) cl0) [(4, false)] noLoops 400 Try.f21 (argsR z 3) 0 no) = nilV := by kernel_rfl
        have h2 : rOk (dfun Try.prog (orElse (resT 21 [1, 5] [1, 5]) cl0) [(4, false)] noLoops 400 Try.f21 (argsR z 3) 0 no) = okT [(!eqb (z 19) 0) == false, emp (resL z 1), emp (resL z 5)] true := by kernel_rfl
        have hs := run_spec hm (hct _) (noLoops_ok _ _ _) Try.func21 (by kernel_rfl) (h2.trans (by rw [hk, ea, eb]; rfl))
        rw [h1] at hs
        rw [emp_ok.1 ea, emp_ok.1 eb]
        exact mkR ⟨fun _ => hs.pure (argsR_bare _ _) rfl 0, fun e => (e rfl).elim⟩
      | false =>
        have h1 : rV (dfun Try.prog (orElse (resT 21 [1, 5] [1]) cl0) [(4, false)] noLoops 400 Try.f21 (argsR z 3) 0 no) = .sl 2 0 (resL z 5).length 1 true none := by kernel_rfl
        have h2 : rOk (dfun Try.prog (orElse (resT 21 [1, 5] [1]) cl0) [(4, false)] noLoops 400 Try.f21 (argsR z 3) 0 no) = okT [(!eqb (z 19) 0) == false, emp (resL z 1), !emp (resL z 5), Nat.ble (0 + (resL z 5).length * 1) (resL z 5).length && Nat.ble ((resL z 5).length * 8) 140737488355328 && Nat.ble (resL z 5).length maxLen && Nat.blt 0 (resL z 5).length] true := by kernel_rfl
        have h3 : rS (dfun Try.prog (orElse (resT 21 [1, 5] [1]) cl0) [(4, false)] noLoops 400 Try.f21 (argsR z 3) 0 no) 2 = some ⟨.ints .i64 (((resL z 5).drop 0).take ((resL z 5).length * 1)), true, 3⟩ := by kernel_rfl
        have hp : 0 < (resL z 5).length := List.length_pos_iff.2 (emp_no.1 eb)
        have hs := run_spec hm (hct _) (noLoops_ok _ _ _) Try.func21 (by kernel_rfl) (h2.trans (by
          rw [hk, ea, eb, ble_ok (by omega), ble_ok (by omega), ble_ok (by unfold maxLen; omega), blt_ok hp]; rfl))
        rw [h1] at hs
        rw [dropAll] at h3
        rw [emp_ok.1 ea, List.nil_append]
        exact mkR ⟨fun e => (emp_no.1 eb e).elim, fun _ => ⟨2, _, _, _, hs, h3⟩⟩
    | false => cases eb : emp (resL z 5) with
      | true =>
        have h1 : rV (dfun Try.prog (orElse (resT 21 [1, 5] [5]) cl0) [(4, false)] noLoops 400 Try.f21 (argsR z 3) 0 no) = .sl 1 0 (resL z 1).length 1 true none := by kernel_rfl
        have h2 : rOk (dfun Try.prog (orElse (resT 21 [1, 5] [5]) cl0) [(4, false)] noLoops 400 Try.f21 (argsR z 3) 0 no) = okT [(!eqb (z 19) 0) == false, !emp (resL z 1), emp (resL z 5)] true := by kernel_rfl
        have h3 : rS (dfun Try.prog (orElse (resT 21 [1, 5] [5]) cl0) [(4, false)] noLoops 400 Try.f21 (argsR z 3) 0 no) 1 = some ⟨.ints .i64 (resL z 1), true, 3⟩ := by kernel_rfl
        have hs := run_spec hm (hct _) (noLoops_ok _ _ _) Try.func21 (by kernel_rfl) (h2.trans (by rw [hk, ea, eb]; rfl))
        rw [h1] at hs
        rw [emp_ok.1 eb, List.append_nil]
        exact mkR ⟨fun e => (emp_no.1 ea e).elim, fun _ => ⟨1, _, _, _, hs, h3⟩⟩
      | false =>
        have h1 : rV (dfun Try.prog (orElse (resT 21 [1, 5] []) cl0) [(4, false)] noLoops 400 Try.f21 (argsR z 3) 0 no) = .sl 3 0 ((resL z 1).length + (resL z 5).length) 1 true none := by kernel_rfl
        have h2 : rOk (dfun Try.prog (orElse (resT 21 [1, 5] []) cl0) [(4, false)] noLoops 400 Try.f21 (argsR z 3) 0 no) = okT [(!eqb (z 19) 0) == false, !emp (resL z 1), !emp (resL z 5), Nat.ble ((resL z 1).length * 1) (resL z 1).length && Nat.ble (0 + (resL z 5).length * 1) (resL z 5).length && Nat.ble (((resL z 1).length + (resL z 5).length) * 8) 140737488355328 && Nat.ble ((resL z 1).length + (resL z 5).length) maxLen] true := by kernel_rfl
        have h3 : rS (dfun Try.prog (orElse (resT 21 [1, 5] []) cl0) [(4, false)] noLoops 400 Try.f21 (argsR z 3) 0 no) 3 = some ⟨.ints .i64 ((resL z 1).take ((resL z 1).length * 1) ++ ((resL z 5).drop 0).take ((resL z 5).length * 1)), true, 3⟩ := by kernel_rfl
        have hs := run_spec hm (hct _) (noLoops_ok _ _ _) Try.func21 (by kernel_rfl) (h2.trans (by
          rw [hk, ea, eb, ble_ok (by omega), ble_ok (by omega), ble_ok (by omega), ble_ok (by unfold maxLen; omega)]; rfl))
        rw [h1] at hs
        rw [takeAll, dropAll] at h3
        rw [← List.length_append] at hs
        exact mkR ⟨fun e => (emp_no.1 ea (List.append_eq_nil_iff.1 e).1).elim, fun _ => ⟨3, _, _, _, hs, h3⟩⟩
theorem n21_11 (z : Nat → Int) : SpecR 21 z 11 (resL z 11) := by
  have H : ∀ i, [9, 13].contains i = true → ∀ z, SpecR 21 z i (resL z i) := by
    intro i hi z
    simp at hi
    rcases hi with rfl | rfl
    · exact n21_9 z
    · exact n21_13 z
  have hct : ∀ nils, CTOk Try.prog (orElse (resT 21 [9, 13] nils) cl0) := fun nils => orElse_ok (resT_ok H) cl0_ok
  have eL : resL z 11 = nodeR (z 27) 11 (resL z 9 ++ resL z 13) := rfl
  have la : (resL z 9).length ≤ 2 := len9 z
  have lb : (resL z 13).length ≤ 2 := len13 z
  cases hk : eqb (z 27) 0 with
  | false =>
    rw [eL, nodeR_true hk]
    have h1 : rV (dfun Try.prog (orElse (resT 21 [9, 13] []) cl0) [(4, true)] noLoops 400 Try.f21 (argsR z 11) 0 no) = .sl 1 0 1 1 true (some 1) := by kernel_rfl
    have h2 : rOk (dfun Try.prog (orElse (resT 21 [9, 13] []) cl0) [(4, true)] noLoops 400 Try.f21 (argsR z 11) 0 no) = okT [(!eqb (z 27) 0) == true] true := by kernel_rfl
    have h3 : rS (dfun Try.prog (orElse (resT 21 [9, 13] []) cl0) [(4, true)] noLoops 400 Try.f21 (argsR z 11) 0 no) 1 = some ⟨.ints .i64 [11], true, 3⟩ := by kernel_rfl
    have hs := run_spec hm (hct _) (noLoops_ok _ _ _) Try.func21 (by kernel_rfl) (h2.trans (by rw [hk]; rfl))
    rw [h1] at hs
    exact mkR ⟨fun e => (by cases e), fun _ => ⟨1, _, _, _, hs, h3⟩⟩
  | true =>
    rw [eL, nodeR_false hk]
    cases ea : emp (resL z 9) with
    | true => cases eb : emp (resL z 13) with
      | true =>
        have h1 : rV (dfun Try.prog (orElse (resT 21 [9, 13] [9, 13]) cl0) [(4, false)] noLoops 400 Try.f21 (argsR z 11) 0 no) = nilV := by kernel_rfl
        have h2 : rOk (dfun Try.prog (orElse (resT 21 [9, 13] [9, 13]) cl0) [(4, false)] noLoops 400 Try.f21 (argsR z 11) 0 no) = okT [(!eqb (z 27) 0) == false, emp (resL z 9), emp (resL z 13)] true := by kernel_rfl
        have hs := run_spec hm (hct _) (noLoops_ok _ _ _) Try.func21 (by kernel_rfl) (h2.trans (by rw [hk, ea, eb]; rfl))
        rw [h1] at hs
        rw [emp_ok.1 ea, emp_ok.1 eb]
        exact mkR ⟨fun _ => hs.pure (argsR_bare _ _) rfl 0, fun e => (e rfl).elim⟩
      | false =>
        have h1 : rV (dfun Try.prog (orElse (resT 21 [9, 13] [9]) cl0) [(4, false)] noLoops 400 Try.f21 (argsR z 11) 0 no) = .sl 2 0 (resL z 13).length 1 true none := by kernel_rfl
        have h2 : rOk (dfun Try.prog (orElse (resT 21 [9, 13] [9]) cl0) [(4, false)] noLoops 400 Try.f21 (argsR z 11) 0 no) = okT [(!eqb (z 27) 0) == false, emp (resL z 9), !emp (resL z 13), Nat.ble (0 + (resL z 13).length * 1) (resL z 13).length && Nat.ble ((resL z 13).length * 8) 140737488355328 && Nat.ble (resL z 13).length maxLen && Nat.blt 0 (resL z 13).length] true := by kernel_rfl
        have h3 : rS (dfun Try.prog (orElse (resT 21 [9, 13] [9]) cl0) [(4, false)] noLoops 400 Try.f21 (argsR z 11) 0 no) 2 = some ⟨.ints .i64 (((resL z 13).drop 0).take ((resL z 13).length * 1)), true, 3⟩ := by kernel_rfl
        have hp : 0 < (resL z 13).length := List.length_pos_iff.2 (emp_no.1 eb)
        have hs := run_spec hm (hct _) (noLoops_ok _ _ _) Try.func21 (by kernel_rfl) (h2.trans (by
          rw [hk, ea, eb, ble_ok (by omega), ble_ok (by omega), ble_ok (by unfold maxLen; omega), blt_ok hp]; rfl))
        rw [h1] at hs
        rw [dropAll] at h3
        rw [emp_ok.1 ea, List.nil_append]
        exact mkR ⟨fun e => (emp_no.1 eb e).elim, fun _ => ⟨2, _, _, _, hs, h3⟩⟩
    | false => cases eb : emp (resL z 13) with
      | true =>
        have h1 : rV (dfun Try.prog (orElse (resT 21 [9, 13] [13]) cl0) [(4, false)] noLoops 400 Try.f21 (argsR z 11) 0 no) = .sl 1 0 (resL z 9).length 1 true none := by kernel_rfl
        have h2 : rOk (dfun Try.prog (orElse (resT 21 [9, 13] [13]) cl0) [(4, false)] noLoops 400 Try.f21 (argsR z 11) 0 no) = okT [(!eqb (z 27) 0) == false, !emp (resL z 9), emp (resL z 13)] true := by kernel_rfl
        have h3 : rS (dfun Try.prog (orElse (resT 21 [9, 13] [13]) cl0) [(4, false)] noLoops 400 Try.f21 (argsR z 11) 0 no) 1 = some ⟨.ints .i64 (resL z 9), true, 3⟩ := by kernel_rfl
        have hs := run_spec hm (hct _) (noLoops_ok _ _ _) Try.func21 (by kernel_rfl) (h2.trans (by rw [hk, ea, eb]; rfl))
        rw [h1] at hs
        rw [emp_ok.1 eb, List.append_nil]
        exact mkR ⟨fun e => (emp_no.1 ea e).elim, fun _ => ⟨1, _, _, _, hs, h3⟩⟩
      | false =>
        have h1 : rV (dfun Try.prog (orElse (resT 21 [9, 13] []) cl0) [(4, false)] noLoops 400 Try.f21 (argsR z 11) 0 no) = .sl 3 0 ((resL z 9).length + (resL z 13).length) 1 true none := by kernel_rfl
        have h2 : rOk (dfun Try.prog (orElse (resT 21 [9, 13] []) cl0) [(4, false)] noLoops 400 Try.f21 (argsR z 11) 0 no) = okT [(!eqb (z 27) 0) == false, !emp (resL z 9), !emp (resL z 13), Nat.ble ((resL z 9).length * 1) (resL z 9).length && Nat.ble (0 + (resL z 13).length * 1) (resL z 13).length && Nat.ble (((resL z 9).length + (resL z 13).length) * 8) 140737488355328 && Nat.ble ((resL z 9).length + (resL z 13).length) maxLen] true := by kernel_rfl
        have h3 : rS (dfun Try.prog (orElse (resT 21 [9, 13] []) cl0) [(4, false)] noLoops 400 Try.f21 (argsR z 11) 0 no) 3 = some ⟨.ints .i64 ((resL z 9).take ((resL z 9).length * 1) ++ ((resL z 13).drop 0).take ((resL z 13).length * 1)), true, 3⟩ := by kernel_rfl
        have hs := run_spec hm (hct _) (noLoops_ok _ _ _) Try.func21 (by kernel_rfl) (h2.trans (by
          rw [hk, ea, eb, ble_ok (by omega), ble_ok (by omega), ble_ok (by omega), ble_ok (by unfold maxLen; omega)]; rfl))
        rw [h1] at hs
        rw [takeAll, dropAll] at h3
        rw [← List.length_append] at hs
        exact mkR ⟨fun e => (emp_no.1 ea (List.append_eq_nil_iff.1 e).1).elim, fun _ => ⟨3, _, _, _, hs, h3⟩⟩
theorem n21_7 (z : Nat → Int) : SpecR 21 z 7 (resL z 7) := by
  have H : ∀ i, [3, 11].contains i = true → ∀ z, SpecR 21 z i (resL z i) := by
    intro i hi z
    simp at hi
    rcases hi with rfl | rfl
    · exact n21_3 z
    · exact n21_11 z
  have hct : ∀ nils, CTOk Try.prog (orElse (resT 21 [3, 11] nils) cl0) := fun nils => orElse_ok (resT_ok H) cl0_ok
  have eL : resL z 7 = nodeR (z 23) 7 (resL z 3 ++ resL z 11) := rfl
  have la : (resL z 3).length ≤ 4 := len3 z
  have lb : (resL z 11).length ≤ 4 := len11 z
  cases hk : eqb (z 23) 0 with
  | false =>
    rw [eL, nodeR_true hk]
    have h1 : rV (dfun Try.prog (orElse (resT 21 [3, 11] []) cl0) [(4, true)] noLoops 400 Try.f21 (argsR z 7) 0 no) = .sl 1 0 1 1 true (some 1) := by kernel_rfl
    have h2 : rOk (dfun Try.prog (orElse (resT 21 [3, 11] []) cl0) [(4, true)] noLoops 400 Try.f21 (argsR z 7) 0 no) = okT [(!eqb (z 23) 0) == true] true := by kernel_rfl
    have h3 : rS (dfun Try.prog (orElse (resT 21 [3, 11] []) cl0) [(4, true)] noLoops 400 Try.f21 (argsR z 7) 0 no) 1 = some ⟨.ints .i64 [7], true, 3⟩ := by kernel_rfl
    have hs := run_spec hm (hct _) (noLoops_ok _ _ _) Try.func21 (by kernel_rfl) (h2.trans (by rw [hk]; rfl))
    rw [h1] at hs
    exact mkR ⟨fun e => (by cases e), fun _ => ⟨1, _, _, _, hs, h3⟩⟩
  | true =>
    rw [eL, nodeR_false hk]
    cases ea : emp (resL z 3) with
    | true => cases eb : emp (resL z 11) with
      | true =>
        have h1 : rV (dfun Try.prog (orElse (resT 21 [3, 11] [3, 11]) cl0) [(4, false)] noLoops 400 Try.f21 (argsR z 7) 0 no) = nilV := by kernel_rfl
        have h2 : rOk (dfun Try.prog (orElse (resT 21 [3, 11] [3, 11]) cl0) [(4, false)] noLoops 400 Try.f21 (argsR z 7) 0 no) = okT [(!eqb (z 23) 0) == false, emp (resL z 3), emp (resL z 11)] true := by kernel_rfl
        have hs := run_spec hm (hct _) (noLoops_ok _ _ _) Try.func21 (by kernel_rfl) (h2.trans (by rw [hk, ea, eb]; rfl))
        rw [h1] at hs
        rw [emp_ok.1 ea, emp_ok.1 eb]
        exact mkR ⟨fun _ => hs.pure (argsR_bare _ _) rfl 0, fun e => (e rfl).elim⟩
      | false =>
        have h1 : rV (dfun Try.prog (orElse (resT 21 [3, 11] [3]) cl0) [(4, false)] noLoops 400 Try.f21 (argsR z 7) 0 no) = .sl 2 0 (resL z 11).length 1 true none := by kernel_rfl
        have h2 : rOk (dfun Try.prog (orElse (resT 21 [3, 11] [3]) cl0) [(4, false)] noLoops 400 Try.f21 (argsR z 7) 0 no) = okT [(!eqb (z 23) 0) == false, emp (resL z 3), !emp (resL z 11), Nat.ble (0 + (resL z 11).length * 1) (resL z 11).length && Nat.ble ((resL z 11).length * 8) 140737488355328 && Nat.ble (resL z 11).length maxLen && Nat.blt 0 (resL z 11).length] true := by kernel_rfl
        have h3 : rS (dfun Try.prog (orElse (resT 21 [3, 11] [3]) cl0) [(4, false)] noLoops 400 Try.f21 (argsR z 7) 0 no) 2 = some ⟨.ints .i64 (((resL z 11).drop 0).take ((resL z 11).length * 1)), true, 3⟩ := by kernel_rfl
        have hp : 0 < (resL z 11).length := List.length_pos_iff.2 (emp_no.1 eb)
        have hs := run_spec hm (hct _) (noLoops_ok _ _ _) Try.func21 (by kernel_rfl) (h2.trans (by
          rw [hk, ea, eb, ble_ok (by omega), ble_ok (by omega), ble_ok (by unfold maxLen; omega), blt_ok hp]; rfl))
        rw [h1] at hs
        rw [dropAll] at h3
        rw [emp_ok.1 ea, List.nil_append]
        exact mkR ⟨fun e => (emp_no.1 eb e).elim, fun _ => ⟨2, _, _, _, hs, h3⟩⟩
    | false => cases eb : emp (resL z 11) with
      | true =>
        have h1 : rV (dfun Try.prog (orElse (resT 21 [3, 11] [11]) cl0) [(4, false)] noLoops 400 Try.f21 (argsR z 7) 0 no) = .sl 1 0 (resL z 3).length 1 true none := by kernel_rfl
        have h2 : rOk (dfun Try.prog (orElse (resT 21 [3, 11] [11]) cl0) [(4, false)] noLoops 400 Try.f21 (argsR z 7) 0 no) = okT [(!eqb (z 23) 0) == false, !emp (resL z 3), emp (resL z 11)] true := by kernel_rfl
        have h3 : rS (dfun Try.prog (orElse (resT 21 [3, 11] [11]) cl0) [(4, false)] noLoops 400 Try.f21 (argsR z 7) 0 no) 1 = some ⟨.ints .i64 (resL z 3), true, 3⟩ := by kernel_rfl
        have hs := run_spec hm (hct _) (noLoops_ok _ _ _) Try.func21 (by kernel_rfl) (h2.trans (by rw [hk, ea, eb]; rfl))
        rw [h1] at hs
        rw [emp_ok.1 eb, List.append_nil]
        exact mkR ⟨fun e => (emp_no.1 ea e).elim, fun _ => ⟨1, _, _, _, hs, h3⟩⟩
      | false =>
        have h1 : rV (dfun Try.prog (orElse (resT 21 [3, 11] []) cl0) [(4, false)] noLoops 400 Try.f21 (argsR z 7) 0 no) = .sl 3 0 ((resL z 3).length + (resL z 11).length) 1 true none := by kernel_rfl
        have h2 : rOk (dfun Try.prog (orElse (resT 21 [3, 11] []) cl0) [(4, false)] noLoops 400 Try.f21 (argsR z 7) 0 no) = okT [(!eqb (z 23) 0) == false, !emp (resL z 3), !emp (resL z 11), Nat.ble ((resL z 3).length * 1) (resL z 3).length && Nat.ble (0 + (resL z 11).length * 1) (resL z 11).length && Nat.ble (((resL z 3).length + (resL z 11).length) * 8) 140737488355328 && Nat.ble ((resL z 3).length + (resL z 11).length) maxLen] true := by kernel_rfl
        have h3 : rS (dfun Try.prog (orElse (resT 21 [3, 11] []) cl0) [(4, false)] noLoops 400 Try.f21 (argsR z 7) 0 no) 3 = some ⟨.ints .i64 ((resL z 3).take ((resL z 3).length * 1) ++ ((resL z 11).drop 0).take ((resL z 11).length * 1)), true, 3⟩ := by kernel_rfl
        have hs := run_spec hm (hct _) (noLoops_ok _ _ _) Try.func21 (by kernel_rfl) (h2.trans (by
          rw [hk, ea, eb, ble_ok (by omega), ble_ok (by omega), ble_ok (by omega), ble_ok (by unfold maxLen; omega)]; rfl))
        rw [h1] at hs
        rw [takeAll, dropAll] at h3
        rw [← List.length_append] at hs
        exact mkR ⟨fun e => (emp_no.1 ea (List.append_eq_nil_iff.1 e).1).elim, fun _ => ⟨3, _, _, _, hs, h3⟩⟩
theorem res21 (j : Nat) (hj : j < 15) (z : Nat → Int) : SpecR 21 z j (resL z j) := by
  match j, hj with
  | 0, _ => exact n21_0 z
  | 1, _ => exact n21_1 z
  | 2, _ => exact n21_2 z
  | 3, _ => exact n21_3 z
  | 4, _ => exact n21_4 z
  | 5, _ => exact n21_5 z
  | 6, _ => exact n21_6 z
  | 7, _ => exact n21_7 z
  | 8, _ => exact n21_8 z
  | 9, _ => exact n21_9 z
  | 10, _ => exact n21_10 z
  | 11, _ => exact n21_11 z
  | 12, _ => exact n21_12 z
  | 13, _ => exact n21_13 z
  | 14, _ => exact n21_14 z
end Go.Proofs.Ytnklnboglijcbaa.D
