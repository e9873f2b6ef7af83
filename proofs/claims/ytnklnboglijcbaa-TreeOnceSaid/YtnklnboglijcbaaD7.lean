/- From a contract to a law's row: nothing that was there before the call turns. Plain Lean over the kit's model; no program. -/
import Derived.Test.YtnklnboglijcbaaD6
namespace Go.Proofs.Ytnklnboglijcbaa.D
open Go Go.RowKit
set_option linter.unusedVariables false

def nob : Bt := fun _ => none
theorem Sim.none' (n : Nat) (w : World) : Sim n nob no w := ⟨fun _ _ h => (by cases h), fun _ _ _ _ _ _ h => (by cases h), fun _ _ => rfl⟩

theorem Step.below {β β' : Bt} {σ' : Sto} {w w' : World} (h : Step β no w β' σ' w') : Below w.heap.size w w' :=
  ⟨h.os, h.tape, h.output, h.size, fun k hk => h.fr k hk fun ⟨_, _, _, e, _⟩ => by cases e⟩

/-- a law whose arguments bear no addresses. -/
theorem Spec.law {P : Program} {f : FuncId} {args : List V} {xs : List Value} {n n' : Nat} {σ' : Sto} (h : Spec P f args n no (.sc (.bool true)) n' σ') (hA : F2 (R nob) args xs) (W : World) :
    Calls P f xs.toArray W (fun e W' => e = .returned (.bool true) ∧ Below W.heap.size W W') :=
  (h.calls nob xs W (Sim.none' n W) hA).mono fun e W' ⟨x, β', he, hR, hS, st⟩ => ⟨by rw [he, hR.1], st.below⟩

/-- a contract found with no objects at all, of values without addresses, holds among any names. -/
theorem Spec.pure {P : Program} {g : FuncId} {args : List V} {r : V} {n' : Nat} {σ' : Sto} (h : Spec P g args 0 no r n' σ') (ha : args.all V.bare = true) (hr : r.bare = true) (n : Nat) : Spec P g args n no r n no := by
  refine ⟨h.there, fun β xs w hS hA => ?_⟩
  rw [List.all_eq_true] at ha
  refine (h.calls nob xs w (Sim.none' 0 w) (hA.mono_mem fun v x hv hR => hR.bare (ha v hv))).mono ?_
  rintro e w' ⟨x, β', rfl, hR, hS', st⟩
  exact ⟨x, β, rfl, hR.bare hr, ⟨fun _ _ e => (by cases e), fun _ _ _ _ _ _ e => (by cases e), hS.fresh⟩,
    ⟨Bt.le.refl β, st.os, st.tape, st.output, st.size, fun b hb _ => st.fr b hb (fun ⟨_, _, _, e, _⟩ => by cases e), fun _ _ _ e => (by cases e)⟩⟩

theorem R_int (β : Bt) (k : IntKind) (j : Int) : R β (.sc (.int k j)) (.int k j) := ⟨rfl, rfl⟩
theorem R_bool (β : Bt) (b : Bool) : R β (.sc (.bool b)) (.bool b) := ⟨rfl, rfl⟩

/-- a number is below nought, or one of the first k, or from k on. -/
theorem int_cases (j : Int) (k : Nat) : (∃ m, j = Int.negSucc m) ∨ (∃ i, i < k ∧ j = Int.ofNat i) ∨ ∃ m, j = Int.ofNat (m + k) := by
  cases j with
  | negSucc m => exact .inl ⟨m, rfl⟩
  | ofNat i =>
    by_cases h : i < k
    · exact .inr (.inl ⟨i, h, rfl⟩)
    · exact .inr (.inr ⟨i - k, by rw [Nat.sub_add_cancel (by omega)]⟩)

end Go.Proofs.Ytnklnboglijcbaa.D
