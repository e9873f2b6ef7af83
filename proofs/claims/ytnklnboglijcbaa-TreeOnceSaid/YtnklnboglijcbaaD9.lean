/- Regions whose order is drawn: whatever the order, what stands behind it is what stands behind the order of the text. Plain Lean over the kit's model; no program. -/
import Derived.Test.YtnklnboglijcbaaD7
namespace Go.Proofs.Ytnklnboglijcbaa.D
open Go Go.RowKit
set_option linter.unusedVariables false

/-! ### the names of a value -/
def V.in0 (p : Nat → Bool) : V → Bool
  | .ptr id _ => p id
  | .sl id _ _ _ _ _ => p id
  | _ => true
def V.in1 (p : Nat → Bool) : V → Bool
  | .fn _ a b => a.all (V.in0 p) && b.all (V.in0 p)
  | v => v.in0 p
def V.in2 (p : Nat → Bool) : V → Bool
  | .agg cs => cs.all (V.in1 p)
  | v => v.in1 p
def V.inn (p : Nat → Bool) : V → Bool
  | .tup vs => vs.all (V.in2 p)
  | v => v.in2 p

section names
variable {β β' : Bt} {p : Nat → Bool} (hp : ∀ id, p id = true → ∀ b, β id = some b → β' id = some b)
include hp
theorem R0.names {v x} (h : R0 β v x) (hv : v.in0 p = true) : R0 β' v x := by
  cases v with
  | sc y => exact h
  | ptr id off => obtain ⟨a, e, q, hq, ha⟩ := h; exact ⟨a, e, q, hp _ hv _ hq, ha⟩
  | sl id off len z top cap => obtain ⟨q, c, hq, r⟩ := h; exact ⟨q, c, hp _ hv _ hq, r⟩
  | _ => exact h.elim
theorem F2.names0 {vs : List V} {xs} (h : F2 (R0 β) vs xs) (hv : vs.all (V.in0 p) = true) : F2 (R0 β') vs xs := by
  rw [List.all_eq_true] at hv
  exact h.mono_mem fun v x hm hr => R0.names hp hr (hv v hm)
theorem R1.names {v x} (h : R1 β v x) (hv : v.in1 p = true) : R1 β' v x := by
  cases v with
  | fn f a b =>
    obtain ⟨xs, ys, e, h1, h2⟩ := h
    have hv' : a.all (V.in0 p) = true ∧ b.all (V.in0 p) = true := by simpa [V.in1] using hv
    exact ⟨xs, ys, e, F2.names0 hp h1 hv'.1, F2.names0 hp h2 hv'.2⟩
  | _ =>
    simp only [R1] at h ⊢
    exact R0.names hp h hv
theorem F2.names1 {vs : List V} {xs} (h : F2 (R1 β) vs xs) (hv : vs.all (V.in1 p) = true) : F2 (R1 β') vs xs := by
  rw [List.all_eq_true] at hv
  exact h.mono_mem fun v x hm hr => R1.names hp hr (hv v hm)
theorem R2.names {v x} (h : R2 β v x) (hv : v.in2 p = true) : R2 β' v x := by
  cases v with
  | agg cs => obtain ⟨xs, e, h1⟩ := h; exact ⟨xs, e, F2.names1 hp h1 hv⟩
  | _ =>
    simp only [R2] at h ⊢
    exact R1.names hp h hv
theorem R.names {v x} (h : R β v x) (hv : v.inn p = true) : R β' v x := by
  cases v with
  | und => trivial
  | tup vs =>
    obtain ⟨xs, e, h1⟩ := h
    have hv' : vs.all (V.in2 p) = true := hv
    rw [List.all_eq_true] at hv'
    exact ⟨xs, e, h1.mono_mem fun v x hm hr => R2.names hp hr (hv' v hm)⟩
  | _ =>
    simp only [R] at h ⊢
    exact R2.names hp h hv
end names

theorem ObOk.names {β β' : Bt} {p : Nat → Bool} {w : World} {q : Bl} {o : Ob} (hp : ∀ id, p id = true → ∀ b, β id = some b → β' id = some b) (h : ObOk β w q o) (hc : o.cells.all (V.in1 p) = true) : ObOk β' w q o := by
  obtain ⟨hlt, h⟩ := h
  refine ⟨hlt, ?_⟩
  cases hr : o.rw with
  | false =>
    rw [hr] at h
    intro i v hv
    obtain ⟨x, hx, hR⟩ := h i v hv
    rw [List.all_eq_true] at hc
    exact ⟨x, hx, R1.names hp hR (hc v (List.mem_of_getElem? hv))⟩
  | true =>
    rw [hr] at h
    obtain ⟨hd, cur, hg, hs, hle, hf⟩ := h
    exact ⟨hd, cur, hg, hs, hle, F2.names1 hp hf hc⟩

/-- 'Sim' without the rule on free names. -/
structure SimL (β : Bt) (σ : Sto) (w : World) : Prop where
  ob : ∀ id o, σ id = some o → ∃ p, β id = some p ∧ ObOk β w p o
  sep : ∀ id o id' o' p p', σ id = some o → o.rw = true → σ id' = some o' → id ≠ id' → β id = some p → β id' = some p' → p.b ≠ p'.b
theorem Sim.toL {n β σ w} (h : Sim n β σ w) : SimL β σ w := ⟨h.ob, h.sep⟩

/-- an operation among few objects, seen among more of them. 'new': the names that it may give. -/
theorem frameL {β βi βi' : Bt} {τ σs σs' : Sto} {w w' : World} {new : Nat → Bool} (hS : SimL β τ w) (hs : σs.le τ) (hβi : ∀ id, (σs id).isSome = true → βi id = β id) (hst : Step βi σs w βi' σs' w') (h' : SimL βi' σs' w')
    (hnew : ∀ id, new id = true → β id = none) (hdom : ∀ id, (σs' id).isSome = true → (σs id).isSome = true ∨ new id = true) (hcells : ∀ id o, σs' id = some o → o.cells.all (V.in1 fun id => (σs id).isSome || new id) = true) :
    let β' : Bt := fun id => if new id then βi' id else β id
    let τ' : Sto := fun id => if (σs id).isSome || new id then σs' id else τ id
    SimL β' τ' w' ∧ Step β τ w β' τ' w' ∧ (∀ v x, v.inn (fun id => (σs id).isSome || new id) = true → R βi' v x → R β' v x) := by
  intro β' τ'
  have hag : ∀ id, ((σs id).isSome || new id) = true → ∀ b, βi' id = some b → β' id = some b := by
    intro id hid b hb
    by_cases hn : new id = true
    · simp only [β', hn, if_true]; exact hb
    · simp only [β', hn]
      have hso : (σs id).isSome = true := by simpa [hn] using hid
      obtain ⟨o, ho⟩ := Option.isSome_iff_exists.1 hso
      obtain ⟨q, hq, _⟩ := hS.ob id o (hs _ _ ho)
      have h1 : βi id = some q := by rw [hβi id hso]; exact hq
      have h2 := hst.le _ _ h1
      rw [hb] at h2; cases h2
      exact hq
  have hle : β.le β' := by
    intro id q hq
    by_cases hn : new id = true
    · rw [hnew id hn] at hq; cases hq
    · simp only [β', hn]; exact hq
  have hcase : ∀ id o, τ' id = some o → (σs' id = some o ∧ ((σs id).isSome || new id) = true) ∨ (σs id = none ∧ new id = false ∧ τ id = some o) := by
    intro id o e
    simp only [τ'] at e
    split at e
    · exact .inl ⟨e, by assumption⟩
    · rename_i hc; simp only [Bool.or_eq_true, not_or, Bool.not_eq_true, Option.isSome_eq_false_iff, Option.isNone_iff_eq_none] at hc; exact .inr ⟨hc.1, hc.2, e⟩
  -- what is known of an object's place
  have hplace : ∀ id o, σs' id = some o → ((σs id).isSome || new id) = true → ∃ q, βi' id = some q ∧ β' id = some q ∧ ObOk β' w' q o := by
    intro id o e hid
    obtain ⟨q, hq, hok⟩ := h'.ob id o e
    exact ⟨q, hq, hag id hid q hq, hok.names hag (hcells id o e)⟩
  have hold : ∀ id, σs id = none → new id = false → β' id = β id := fun id h1 h2 => by simp [β', h2]
  have hWr : ∀ b, Wr βi σs b → Wr β τ b := by
    rintro b ⟨id, o, q, e, hr, hq, hb⟩
    exact ⟨id, o, q, hs _ _ e, hr, by rw [← hβi id (by rw [e]; rfl)]; exact hq, hb⟩
  have hoth : ∀ id o q, σs id = none → τ id = some o → β id = some q → ¬ Wr βi σs q.b := by
    rintro id o q e1 e2 e3 ⟨id0, o0, p0, f1, f2, f3, f4⟩
    refine hS.sep id0 o0 id o p0 q (hs _ _ f1) f2 e2 ?_ (by rw [← hβi id0 (by rw [f1]; rfl)]; exact f3) e3 f4
    rintro rfl; rw [e1] at f1; cases f1
  have hown : ∀ id o q, σs' id = some o → βi' id = some q → (∃ id0 o0 p0, σs id0 = some o0 ∧ β id0 = some p0 ∧ p0.b = q.b ∧ (o.rw = true → o0.rw = true)) ∨ w.heap.size ≤ q.b := by
    intro id o q e hq
    rcases hst.own id o q e hq with ⟨id0, o0, p0, f1, f2, f3, f4⟩ | hge
    · exact .inl ⟨id0, o0, p0, f1, by rw [← hβi id0 (by rw [f1]; rfl)]; exact f2, f3, f4⟩
    · exact .inr hge
  refine ⟨⟨?_, ?_⟩, ⟨hle, hst.os, hst.tape, hst.output, hst.size, fun b hb hw => hst.fr b hb (fun hc => hw (hWr b hc)), ?_⟩, fun v x hv hR => R.names hag hR hv⟩
  · intro id o e
    rcases hcase id o e with ⟨e, hid⟩ | ⟨e0, en, e⟩
    · obtain ⟨q, _, hq, hok⟩ := hplace id o e hid
      exact ⟨q, hq, hok⟩
    · obtain ⟨q, hq, hok⟩ := hS.ob id o e
      exact ⟨q, by rw [hold id e0 en]; exact hq, hok.keep hle hst.size (hst.fr q.b hok.1 (hoth id o q e0 e hq))⟩
  · intro id o id' o' q q' e hr e' hne hq hq'
    rcases hcase id o e with ⟨e, hid⟩ | ⟨e0, en, e⟩ <;> rcases hcase id' o' e' with ⟨e', hid'⟩ | ⟨e0', en', e'⟩
    · obtain ⟨q1, h1, h2, _⟩ := hplace id o e hid
      obtain ⟨q2, h3, h4, _⟩ := hplace id' o' e' hid'
      rw [hq] at h2; cases h2
      rw [hq'] at h4; cases h4
      exact h'.sep id o id' o' q q' e hr e' hne h1 h3
    · obtain ⟨q1, h1, h2, _⟩ := hplace id o e hid
      rw [hq] at h2; cases h2
      rw [hold id' e0' en'] at hq'
      obtain ⟨q2, h3, hok'⟩ := hS.ob id' o' e'
      rw [hq'] at h3; cases h3
      rcases hown id o q e h1 with ⟨id0, o0, p0, f1, f2, f3, f4⟩ | hge
      · have hne' : id0 ≠ id' := by rintro rfl; rw [e0'] at f1; cases f1
        exact fun hc => hS.sep id0 o0 id' o' p0 q' (hs _ _ f1) (f4 hr) e' hne' f2 hq' (f3.trans hc)
      · have := hok'.1; omega
    · obtain ⟨q2, h3, h4, _⟩ := hplace id' o' e' hid'
      rw [hq'] at h4; cases h4
      rw [hold id e0 en] at hq
      obtain ⟨q1, h1, hok⟩ := hS.ob id o e
      rw [hq] at h1; cases h1
      rcases hown id' o' q' e' h3 with ⟨id0, o0, p0, f1, f2, f3, f4⟩ | hge
      · have hne' : id ≠ id0 := by rintro rfl; rw [e0] at f1; cases f1
        rw [← f3]
        exact hS.sep id o id0 o0 q p0 e hr (hs _ _ f1) hne' hq f2
      · have := hok.1; omega
    · rw [hold id e0 en] at hq
      rw [hold id' e0' en'] at hq'
      exact hS.sep id o id' o' q q' e hr e' hne hq hq'
  · intro id o q e hq
    rcases hcase id o e with ⟨e, hid⟩ | ⟨e0, en, e⟩
    · obtain ⟨q1, h1, h2, _⟩ := hplace id o e hid
      rw [hq] at h2; cases h2
      rcases hown id o q e h1 with ⟨id0, o0, p0, f1, f2, f3, f4⟩ | hge
      · exact .inl ⟨id0, o0, p0, hs _ _ f1, f2, f3, f4⟩
      · exact .inr hge
    · rw [hold id e0 en] at hq
      exact .inl ⟨id, o, q, e, hq, rfl, fun h => h⟩

/-! ### the last one that is listed -/
def last (p : Nat → Bool) : Nat → Option Nat
  | 0 => none
  | k + 1 => if p k then some k else last p k
theorem last_congr {p q : Nat → Bool} : ∀ (m : Nat), (∀ k, k < m → p k = q k) → last p m = last q m
  | 0, _ => rfl
  | m + 1, h => by unfold last; rw [h m (by omega), last_congr m fun k hk => h k (by omega)]
theorem last_some {p : Nat → Bool} : ∀ {m j : Nat}, last p m = some j → j < m ∧ p j = true ∧ ∀ k, j < k → k < m → p k = false
  | m + 1, j, h => by
    unfold last at h
    split at h
    · cases h; exact ⟨by omega, by assumption, fun k h1 h2 => by omega⟩
    · rename_i hm
      obtain ⟨h1, h2, h3⟩ := last_some h
      refine ⟨by omega, h2, fun k h4 h5 => ?_⟩
      by_cases e : k = m
      · subst e; simpa using hm
      · exact h3 k h4 (by omega)
theorem last_none {p : Nat → Bool} : ∀ {m : Nat}, last p m = none → ∀ k, k < m → p k = false
  | m + 1, h, k, hk => by
    unfold last at h
    split at h
    · cases h
    · rename_i hm
      by_cases e : k = m
      · subst e; simpa using hm
      · exact last_none h k (by omega)
theorem last_cut {p : Nat → Bool} {i : Nat} : ∀ (m : Nat), i ≤ m → (∀ k, i ≤ k → k < m → p k = false) → last p m = last p i
  | 0, hi, _ => by obtain rfl : i = 0 := by omega
                   rfl
  | m + 1, hi, h => by
    by_cases e : i = m + 1
    · rw [e]
    · show (if p m then some m else last p m) = last p i
      rw [if_neg (by rw [h m (by omega) (by omega)]; simp)]
      exact last_cut m (by omega) fun k h1 h2 => h k h1 (by omega)
theorem last_of {p : Nat → Bool} {m i : Nat} (hi : i < m) (h : p i = true) (hk : ∀ k, i < k → k < m → p k = false) : last p m = some i := by
  rw [last_cut m (Nat.succ_le_of_lt hi) fun k h1 h2 => hk k (by omega) h2]
  show (if p i then some i else last p i) = some i
  rw [if_pos h]


/-! ### what a region does, in the order of its text -/
/-- 'm' operations: slots, objects, first free name ahead of each one; its value; does it run?; the objects that it asks for; those that it writes or makes. -/
structure Lx where
  fr : Nat → Fr
  n : Nat → Nat
  σ : Nat → Sto
  v : Nat → V
  act : Nat → Bool
  pur : Nat → Bool
  dom : Nat → List Nat
  wr : Nat → List Nat

/-- the slots that an operation looks at. -/
def looks (ops : Array Oper) (o : Oper) : List Tmp := o.looksAt ops

/-- what must be behind what: bits. -/
def befs (ops : Array Oper) : Array Nat := Region.before ops

/-- is 'i' ahead of 'j' in every order? one edge, or several. -/
def isBef (ops : Array Oper) : Nat → Nat → Nat → Bool
  | 0, _, _ => false
  | k + 1, i, j => match ops[j]? with
    | some o => o.after.any fun e => Region.binds .any e && (e.on == i || isBef ops k i e.on)
    | none => false

/-- listed from below. -/
def Closed (ops : Array Oper) (L : Nat → Bool) : Prop := ∀ j o, ops[j]? = some o → L j = true → ∀ e ∈ o.after, Region.binds .any e = true → L e.on = true
theorem isBef_ok {ops : Array Oper} {L : Nat → Bool} (hL : Closed ops L) : ∀ (k i j : Nat), isBef ops k i j = true → L j = true → L i = true
  | 0, i, j, h, _ => by cases h
  | k + 1, i, j, h, hj => by
    unfold isBef at h
    split at h
    · rename_i o ho
      rw [Array.any_eq_true] at h
      obtain ⟨t, ht, h⟩ := h
      simp only [Bool.and_eq_true, Bool.or_eq_true, beq_iff_eq] at h
      have he := hL j o ho hj o.after[t] (Array.getElem_mem ht) h.1
      rcases h.2 with e | h2
      · rw [← e]; exact he
      · exact isBef_ok hL k i _ h2 he
    · cases h

/-- ready: all that it waits for is listed; then all that is ahead of it is. -/
theorem ready_bef {ops : Array Oper} {L : Nat → Bool} (hL : Closed ops L) {i : Nat} {o : Oper} (ho : ops[i]? = some o) (hr : ∀ e ∈ o.after, Region.binds .any e = true → L e.on = true) : ∀ (k j : Nat), isBef ops k j i = true → L j = true
  | 0, j, h => by cases h
  | k + 1, j, h => by
    unfold isBef at h
    rw [ho] at h
    simp only at h
    rw [Array.any_eq_true] at h
    obtain ⟨t, ht, h⟩ := h
    simp only [Bool.and_eq_true, Bool.or_eq_true, beq_iff_eq] at h
    have he := hr o.after[t] (Array.getElem_mem ht) h.1
    rcases h.2 with e | h2
    · rw [← e]; exact he
    · exact isBef_ok hL k j _ h2 he

def meets (a b : List Nat) : Bool := a.any fun x => b.contains x
theorem meets_false {a b : List Nat} (h : meets a b = false) {x : Nat} (ha : a.contains x = true) (hb : b.contains x = true) : False := by
  unfold meets at h
  rw [List.any_eq_false] at h
  exact h x (by simpa using ha) hb

/-- do two operations hang on each other? -/
def hang (ops : Array Oper) (D : Lx) (i j : Nat) (oi oj : Oper) : Bool :=
  !(oi.apart ops oj) || meets (D.wr i) (D.dom j) || meets (D.wr i) (D.wr j) || meets (D.wr j) (D.dom i)

structure LxOk (P : Program) (nt : Nat) (ops : Array Oper) (D : Lx) : Prop where
  edges : ∀ (i : Nat) (o : Oper), ops[i]? = some o → ∀ e ∈ o.after, Region.binds .any e = true → e.on < i
  nosel : ∀ (i : Nat) (o : Oper), ops[i]? = some o → ∀ cs b, o.op ≠ .select cs b
  order : ∀ (i j : Nat) (oi oj : Oper), i < j → ops[i]? = some oi → ops[j]? = some oj → hang ops D i j oi oj = true → isBef ops ops.size i j = true
  dst : ∀ (i : Nat) (o : Oper), ops[i]? = some o → ∀ t, o.dst = some t → t < nt
  wants : ∀ (i : Nat) (o : Oper), ops[i]? = some o → Go.Proofs.Ytnklnboglijcbaa.D.wants (D.fr i) ops o = some (D.act i)
  frame : ∀ (i : Nat) (o : Oper), ops[i]? = some o → D.fr (i + 1) = upd (D.fr i) o.dst (D.v i)
  idle : ∀ (i : Nat), i < ops.size → D.act i = false → D.v i = .und ∧ D.n (i + 1) = D.n i ∧ D.wr i = []
  mono : ∀ (i : Nat), i < ops.size → D.n i ≤ D.n (i + 1)
  kept : ∀ (i : Nat), i < ops.size → ∀ id, (D.wr i).contains id = false → D.σ (i + 1) id = D.σ i id
  there : ∀ (i : Nat), i < ops.size → ∀ id, (D.dom i).contains id = true → (D.σ i id).isSome = true ∧ id < D.n i
  wrote : ∀ (i : Nat), i < ops.size → ∀ id, (D.wr i).contains id = true → (D.dom i).contains id = true ∨ (D.n i ≤ id ∧ id < D.n (i + 1))
  made : ∀ (i : Nat), i < ops.size → ∀ id, D.n i ≤ id → id < D.n (i + 1) → (D.wr i).contains id = true
  names : ∀ (i : Nat) (o : Oper), ops[i]? = some o → D.act i = true → D.pur i = false → ∀ x ∈ o.op.operands, (opd (D.fr i) x).inn (D.dom i).contains = true
  inside : ∀ (i : Nat), i < ops.size → ∀ id o, (D.dom i).contains id = true → D.σ i id = some o → o.cells.all (V.in1 (D.dom i).contains) = true
  inside' : ∀ (i : Nat), i < ops.size → ∀ id o, (D.wr i).contains id = true → D.σ (i + 1) id = some o → o.cells.all (V.in1 fun id => (D.dom i).contains id || (Nat.ble (D.n i) id && Nat.blt id (D.n (i + 1)))) = true
  value : ∀ (i : Nat), i < ops.size → D.act i = true → D.pur i = false → (D.v i).inn (fun id => (D.dom i).contains id || (Nat.ble (D.n i) id && Nat.blt id (D.n (i + 1)))) = true
  pdoes : ∀ (i : Nat) (o : Oper), ops[i]? = some o → D.act i = true → D.pur i = true → POp P o (D.fr i) (D.v i) ∧ D.n (i + 1) = D.n i ∧ D.wr i = []
  does : ∀ (i : Nat) (o : Oper), ops[i]? = some o → D.act i = true → D.pur i = false → TOp P o (D.fr i) (D.n i) (fun id => if (D.dom i).contains id then D.σ i id else none) (D.v i) (D.n (i + 1)) (fun id => if (D.dom i).contains id || (D.wr i).contains id then D.σ (i + 1) id else none)

end Go.Proofs.Ytnklnboglijcbaa.D
