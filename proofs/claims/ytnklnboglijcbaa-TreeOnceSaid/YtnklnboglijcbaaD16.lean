/- Small things for walks that are joined by hand. Plain Lean over the kit's model; no program. -/
import Derived.Test.YtnklnboglijcbaaD15
namespace Go.Proofs.Ytnklnboglijcbaa.D
open Go Go.RowKit
set_option linter.unusedVariables false

theorem nums_of (k : IntKind) (l : List Int) : (l.map fun i => V.sc (.int k i)) = nums' k l.length (fun i => l.getD i 0) := by
  unfold nums'
  apply List.ext_getElem?
  intro i
  simp only [List.getElem?_map]
  by_cases h : i < l.length
  · simp [h, List.getD]
  · simp [h]
theorem nums_bare (k : IntKind) (N : Nat) (z : Nat → Int) : (nums' k N z).all V.bare1 = true := by
  simp [nums', V.bare1]

/-- less is said of a slice: its room. -/
theorem R0.room {β : Bt} {id off len z : Nat} {top : Bool} {cap : Option Nat} {x : Value} (h : R0 β (.sl id off len z top cap) x) : R0 β (.sl id off len z top none) x := by
  obtain ⟨p, c, h1, d', h2, h3, h4, h5, h6⟩ := h
  exact ⟨p, c, h1, d', h2, h3, h4, fun _ e => (by cases e), h6⟩
theorem Spec.room {P : Program} {g : FuncId} {args : List V} {n n' id off len z : Nat} {top : Bool} {cap : Option Nat} {σ σ' : Sto} (h : Spec P g args n σ (.sl id off len z top cap) n' σ') : Spec P g args n σ (.sl id off len z top none) n' σ' :=
  ⟨h.there, fun β xs w hS hA => (h.calls β xs w hS hA).mono fun e w' ⟨x, β', he, hR, hS', st⟩ => ⟨x, β', he, (show R0 β' (.sl id off len z top none) x from R0.room (show R0 β' (.sl id off len z top cap) x from hR)), hS', st⟩⟩

/-- one new object, over any others. -/
theorem Spec.over1 {P : Program} {g : FuncId} {args : List V} {n : Nat} {r : V} {ob : Ob} (h : Spec P g args n no r (n + 1) (no.put n ob)) (σ : Sto) : Spec P g args n σ r (n + 1) (ext n σ [ob] []) :=
  (Spec.frame (no_le σ) h).congr fun β w hS => by
    rw [ext_one]
    funext i
    unfold Sto.over Sto.put no
    by_cases hi : i = n
    · subst hi; simp
    · simp only [if_neg hi]
      split
      · rename_i h; exact (hS.none h).symm
      · simp

/-- what is read stays: a contract over few objects holds over more. -/
theorem Spec.kept {P : Program} {g : FuncId} {args : List V} {n n' : Nat} {σs σs' σ : Sto} {r : V} (h : Spec P g args n σs r n' σs') (hr : r.bare = true) (hk : σs.le σs') (hs : σs.le σ) : Spec P g args n σ r n σ :=
  (Spec.frame hs (h.clean hr hk)).congr fun β w hS => by
    funext i
    unfold Sto.over
    have hn : n ≤ i → σs i = none ∧ σ i = none := fun hi => by
      have h1 := hS.none hi
      refine ⟨?_, h1⟩
      cases e : σs i with
      | none => rfl
      | some o => rw [hs i o e] at h1; cases h1
    split
    · rename_i hi; rw [(hn hi).1, (hn hi).2]
    · cases e : σs i with
      | none => simp
      | some o => simp [hs i o e]
theorem Sto.le.refl (σ : Sto) : σ.le σ := fun _ _ h => h
def eqL (a b : List Int) : Bool := decide (a = b)
theorem eqL_ok {a b : List Int} : eqL a b = true ↔ a = b := by simp [eqL]

/-- pieces of code. -/
def sq1 : Code → Code
  | .seq a _ => a
  | c => c
def sq2 : Code → Code
  | .seq _ b => b
  | c => c
def ofBlock : Code → Code
  | .block _ a => a
  | c => c
def ofLoop : Code → Code
  | .loop a => a
  | c => c
def bodyOf (fn : Func) : Code := match fn.body with
  | some c => c
  | none => .skip

def emp : List Int → Bool
  | [] => true
  | _ :: _ => false
theorem emp_ok {l : List Int} : emp l = true ↔ l = [] := by cases l <;> simp [emp]
theorem emp_no {l : List Int} : emp l = false ↔ l ≠ [] := by cases l <;> simp [emp]

theorem ble_ok {a b : Nat} (h : a ≤ b) : Nat.ble a b = true := Nat.ble_eq_true_of_le h
theorem blt_ok {a b : Nat} (h : a < b) : Nat.blt a b = true := Nat.ble_eq_true_of_le h
theorem blt_no {a b : Nat} (h : b ≤ a) : Nat.blt a b = false := by
  cases e : Nat.blt a b with
  | false => rfl
  | true => have : a < b := Nat.le_of_ble_eq_true e; omega
end Go.Proofs.Ytnklnboglijcbaa.D
