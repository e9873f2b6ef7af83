/- One round of a loop, cut to what is looked at; many rounds. Plain Lean over the kit's model; no program. -/
import Derived.Test.YtnklnboglijcbaaE26
namespace Go.Proofs.Ytnklnboglijcbaa.E
open Go Go.RowKit
set_option linter.unusedVariables false

def cutOb (σ : Sto) : List Nat → Option (List (Nat × Ob))
  | [] => some []
  | id :: l => match σ id, cutOb σ l with
    | some o, some r => some ((id, o) :: r)
    | _, _ => none
def cutS (sl obs : List Nat) (q : Out × St) : T LRes := match cutOb q.2.σ obs with
  | some ob => .leaf ⟨q.1, sl.map fun t => (t, q.2.fr t), q.2.n, ob, q.2.ok⟩
  | none => .dead
def cutT (sl obs : List Nat) (t : T (Out × St)) : T LRes := t.bind (cutS sl obs)
theorem frOf_cut {ρ : Env} (fr : Fm) (sl : List Nat) : Fm.imp ρ fr (fmOf (frOf (sl.map fun t => (t, fr t)))) := by
  intro t
  unfold fmOf
  cases hg : (frOf (sl.map fun t => (t, fr t))).get t with
  | none => exact V.imp.und _ _
  | some v =>
    obtain ⟨u, _, hu⟩ := List.mem_map.1 (frOf_get _ _ _ hg)
    cases hu
    exact V.imp.refl _ _
theorem cutOb_le (σ : Sto) : ∀ {l : List Nat} {r : List (Nat × Ob)}, cutOb σ l = some r → Sto.le (obOf r).get σ
  | [], r, h => by cases h; exact fun id o e => by cases e
  | i :: l, r, h => by
    unfold cutOb at h
    split at h
    · rename_i o r' ho hr
      cases h
      intro id o' e
      unfold obOf at e
      rw [Tr.get_put] at e
      split at e
      · rename_i hid; cases e; rw [hid]; exact ho
      · exact cutOb_le σ hr id o' e
    · cases h
theorem round_cut {P : Program} (hm : P.follows .mixedOrders = true) {ρ : Env} {tt : TT} (htt : TTOk P ρ tt) {lp : FuncId → LT} (hlp : LPOk P ρ lp) {fuel depth g id n nt : Nat} {a : Code} (ha : theLoop P g id = some (nt, a)) {fr : List (Nat × V)} {ob : List (Nat × Ob)} {kn : Kn} (hk : knOk ρ kn) {sl obs : List Nat} {r : LRes}
    (h : (cutT sl obs (roundT P tt lp fuel depth g id fr n ob kn)).pick ρ = some r) (hok : okOk ρ r.ok) : n ≤ r.n ∧ ∀ e, e ≤ n → TC P ρ e nt a (fmOf (frOf fr)) n (obOf ob).get r.o (fmOf (frOf r.fr)) r.n (obOf r.ob).get := by
  unfold cutT at h
  obtain ⟨q, h1, h2⟩ := T.bind_some h
  obtain ⟨o, s'⟩ := q
  unfold cutS at h2
  simp only at h2
  split at h2
  · rename_i rob hrob
    cases h2
    obtain ⟨k1, k2⟩ := round_ok hm htt hlp ha hk h1
    exact ⟨k1, fun e he => (k2 hok e he).imp (Fm.imp.refl _ _) (Sto.imp.refl _ _) (frOf_cut _ _) (Sto.imp.le (cutOb_le _ hrob))⟩
  · cases h2
/-- the same, letters being replaced. -/
theorem round_sub {P : Program} (hm : P.follows .mixedOrders = true) {ρ : Env} {s : Sub} (hs : s.noix = true) {tt : TT} (htt : TTOk P (ρ.sub s) tt) {lp : FuncId → LT} (hlp : LPOk P (ρ.sub s) lp) {fuel depth g id n nt : Nat} {a : Code} (ha : theLoop P g id = some (nt, a)) {fr : List (Nat × V)} {ob : List (Nat × Ob)} {sl obs : List Nat} {r : LRes}
    (h : (cutT sl obs (roundT P tt lp fuel depth g id fr n ob [])).pick (ρ.sub s) = some r) (hok : okOk (ρ.sub s) r.ok) : n ≤ r.n ∧ ∀ e, e ≤ n → TC P ρ e nt a (fmOf (frOf (fr.map fun p => (p.1, p.2.sub s)))) n (obOf (ob.map fun p => (p.1, p.2.sub s))).get r.o (fmOf (frOf (r.fr.map fun p => (p.1, p.2.sub s)))) r.n (obOf (r.ob.map fun p => (p.1, p.2.sub s))).get := by
  obtain ⟨h1, h2⟩ := round_cut hm htt hlp ha (fun x hx => by cases hx) h hok
  refine ⟨h1, fun e he => ?_⟩
  have := (h2 e he).sub hs
  rwa [frOf_sub, obOf_sub, frOf_sub, obOf_sub] at this
theorem frOf_imp {ρ : Env} {l r : List (Nat × V)} (h : ∀ p ∈ r, V.imp ρ (fmOf (frOf l) p.1) p.2) : Fm.imp ρ (fmOf (frOf l)) (fmOf (frOf r)) := by
  intro t
  cases hg : (frOf r).get t with
  | none =>
    have : fmOf (frOf r) t = .und := by unfold fmOf; rw [hg]
    rw [this]; exact V.imp.und _ _
  | some v =>
    have : fmOf (frOf r) t = v := by unfold fmOf; rw [hg]
    rw [this]; exact h (t, v) (frOf_get _ _ _ hg)
/-- numbers for letters. -/
def litS (l : List Int) : Sub := ⟨l.map .lit, [], [], []⟩
theorem litS_noix (l : List Int) : (litS l).noix = true := by
  simp only [Sub.noix, litS, List.all_nil, Bool.and_true, List.all_eq_true, List.mem_map]
  rintro a ⟨n, _, rfl⟩
  simp [E.inst, E.same, iN, eqb_eq]
theorem litS_e (ρ : Env) (l : List Int) (i : Nat) : (ρ.sub (litS l)).e i = l.getD i 0 := by
  simp only [Env.sub, litS, List.getD_eq_getElem?_getD, List.getElem?_map]
  cases l[i]? <;> rfl
end Go.Proofs.Ytnklnboglijcbaa.E
