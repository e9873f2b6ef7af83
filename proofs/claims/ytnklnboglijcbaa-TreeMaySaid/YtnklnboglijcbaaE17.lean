/- Regions whose order is drawn: whatever the order, what stands behind it is what stands behind the order of the text. Plain Lean over the kit's model; no program. -/
import Derived.Test.YtnklnboglijcbaaE16
namespace Go.Proofs.Ytnklnboglijcbaa.E
open Go Go.RowKit
set_option linter.unusedVariables false

/-! ### the last one that is listed -/
def last (p : Nat → Bool) : Nat → Option Nat
  | 0 => none
  | k + 1 => if p k then some k else last p k
theorem last_congr {p q : Nat → Bool} : ∀ (m : Nat), (∀ k, k < m → p k = q k) → last p m = last q m
  | 0, _ => rfl
  | m + 1, h => by unfold last; rw [h m (by omega), last_congr m fun k hk => h k (by omega)]
theorem last_some {p : Nat → Bool} : ∀ {m j : Nat}, last p m = some j → j < m ∧ p j = true ∧ ∀ k, j < k → k < m → p k = false
  | m + 1, j, h => by
    unfold last at h
    split at h
    · cases h; exact ⟨by omega, by assumption, fun k h1 h2 => by omega⟩
    · rename_i hm
      obtain ⟨h1, h2, h3⟩ := last_some h
      refine ⟨by omega, h2, fun k h4 h5 => ?_⟩
      by_cases e : k = m
      · subst e; simpa using hm
      · exact h3 k h4 (by omega)
theorem last_none {p : Nat → Bool} : ∀ {m : Nat}, last p m = none → ∀ k, k < m → p k = false
  | m + 1, h, k, hk => by
    unfold last at h
    split at h
    · cases h
    · rename_i hm
      by_cases e : k = m
      · subst e; simpa using hm
      · exact last_none h k (by omega)
theorem last_cut {p : Nat → Bool} {i : Nat} : ∀ (m : Nat), i ≤ m → (∀ k, i ≤ k → k < m → p k = false) → last p m = last p i
  | 0, hi, _ => by obtain rfl : i = 0 := by omega
                   rfl
  | m + 1, hi, h => by
    by_cases e : i = m + 1
    · rw [e]
    · show (if p m then some m else last p m) = last p i
      rw [if_neg (by rw [h m (by omega) (by omega)]; simp)]
      exact last_cut m (by omega) fun k h1 h2 => h k h1 (by omega)
theorem last_of {p : Nat → Bool} {m i : Nat} (hi : i < m) (h : p i = true) (hk : ∀ k, i < k → k < m → p k = false) : last p m = some i := by
  rw [last_cut m (Nat.succ_le_of_lt hi) fun k h1 h2 => hk k (by omega) h2]
  show (if p i then some i else last p i) = some i
  rw [if_pos h]


/-! ### what a region does, in the order of its text -/
/-- 'm' operations: slots, objects, first free name ahead of each one; its value; does it run?; the objects that it asks for; those that it writes or makes. -/
structure Lx where
  fr : Nat → Fm
  n : Nat → Nat
  σ : Nat → Sto
  v : Nat → V
  act : Nat → Bool
  pur : Nat → Bool
  dom : Nat → List Nat
  wr : Nat → List Nat

/-- the slots that an operation looks at. -/
def looks (ops : Array Oper) (o : Oper) : List Tmp := o.looksAt ops

/-- what must be behind what: bits. -/
def befs (ops : Array Oper) : Array Nat := Region.before ops

/-- is 'i' ahead of 'j' in every order? one edge, or several. -/
def isBef (ops : Array Oper) : Nat → Nat → Nat → Bool
  | 0, _, _ => false
  | k + 1, i, j => match ops[j]? with
    | some o => o.after.any fun e => Region.binds .any e && (e.on == i || isBef ops k i e.on)
    | none => false

/-- listed from below. -/
def Closed (ops : Array Oper) (L : Nat → Bool) : Prop := ∀ j o, ops[j]? = some o → L j = true → ∀ e ∈ o.after, Region.binds .any e = true → L e.on = true
theorem isBef_ok {ops : Array Oper} {L : Nat → Bool} (hL : Closed ops L) : ∀ (k i j : Nat), isBef ops k i j = true → L j = true → L i = true
  | 0, i, j, h, _ => by cases h
  | k + 1, i, j, h, hj => by
    unfold isBef at h
    split at h
    · rename_i o ho
      rw [Array.any_eq_true] at h
      obtain ⟨t, ht, h⟩ := h
      simp only [Bool.and_eq_true, Bool.or_eq_true, beq_iff_eq] at h
      have he := hL j o ho hj o.after[t] (Array.getElem_mem ht) h.1
      rcases h.2 with e | h2
      · rw [← e]; exact he
      · exact isBef_ok hL k i _ h2 he
    · cases h

/-- ready: all that it waits for is listed; then all that is ahead of it is. -/
theorem ready_bef {ops : Array Oper} {L : Nat → Bool} (hL : Closed ops L) {i : Nat} {o : Oper} (ho : ops[i]? = some o) (hr : ∀ e ∈ o.after, Region.binds .any e = true → L e.on = true) : ∀ (k j : Nat), isBef ops k j i = true → L j = true
  | 0, j, h => by cases h
  | k + 1, j, h => by
    unfold isBef at h
    rw [ho] at h
    simp only at h
    rw [Array.any_eq_true] at h
    obtain ⟨t, ht, h⟩ := h
    simp only [Bool.and_eq_true, Bool.or_eq_true, beq_iff_eq] at h
    have he := hr o.after[t] (Array.getElem_mem ht) h.1
    rcases h.2 with e | h2
    · rw [← e]; exact he
    · exact isBef_ok hL k j _ h2 he

def meets (a b : List Nat) : Bool := a.any fun x => b.contains x
theorem meets_false {a b : List Nat} (h : meets a b = false) {x : Nat} (ha : a.contains x = true) (hb : b.contains x = true) : False := by
  unfold meets at h
  rw [List.any_eq_false] at h
  exact h x (by simpa using ha) hb

/-- do two operations hang on each other? -/
def hang (ops : Array Oper) (D : Lx) (i j : Nat) (oi oj : Oper) : Bool :=
  !(oi.apart ops oj) || meets (D.wr i) (D.dom j) || meets (D.wr i) (D.wr j) || meets (D.wr j) (D.dom i)

structure LxOk (P : Program) (ρ : Env) (nt : Nat) (ops : Array Oper) (D : Lx) : Prop where
  edges : ∀ (i : Nat) (o : Oper), ops[i]? = some o → ∀ e ∈ o.after, Region.binds .any e = true → e.on < i
  nosel : ∀ (i : Nat) (o : Oper), ops[i]? = some o → ∀ cs b, o.op ≠ .select cs b
  order : ∀ (i j : Nat) (oi oj : Oper), i < j → ops[i]? = some oi → ops[j]? = some oj → hang ops D i j oi oj = true → isBef ops ops.size i j = true
  dst : ∀ (i : Nat) (o : Oper), ops[i]? = some o → ∀ t, o.dst = some t → t < nt
  wants : ∀ (i : Nat) (o : Oper), ops[i]? = some o → Go.Proofs.Ytnklnboglijcbaa.E.wants ρ (D.fr i) ops o = some (D.act i)
  frame : ∀ (i : Nat) (o : Oper), ops[i]? = some o → D.fr (i + 1) = upd (D.fr i) o.dst (D.v i)
  idle : ∀ (i : Nat), i < ops.size → D.act i = false → D.v i = .tup [] ∧ D.n (i + 1) = D.n i ∧ D.wr i = []
  mono : ∀ (i : Nat), i < ops.size → D.n i ≤ D.n (i + 1)
  kept : ∀ (i : Nat), i < ops.size → ∀ id, (D.wr i).contains id = false → D.σ (i + 1) id = D.σ i id
  there : ∀ (i : Nat), i < ops.size → ∀ id, (D.dom i).contains id = true → (D.σ i id).isSome = true ∧ id < D.n i
  wrote : ∀ (i : Nat), i < ops.size → ∀ id, (D.wr i).contains id = true → (D.dom i).contains id = true ∨ (D.n i ≤ id ∧ id < D.n (i + 1))
  made : ∀ (i : Nat), i < ops.size → ∀ id, D.n i ≤ id → id < D.n (i + 1) → (D.wr i).contains id = true
  names : ∀ (i : Nat) (o : Oper), ops[i]? = some o → D.act i = true → D.pur i = false → ∀ x ∈ o.op.operands, (opd (D.fr i) x).inn (D.dom i).contains = true
  inside : ∀ (i : Nat), i < ops.size → ∀ id o, (D.dom i).contains id = true → D.σ i id = some o → o.row.inn (D.dom i).contains = true
  inside' : ∀ (i : Nat), i < ops.size → ∀ id o, (D.wr i).contains id = true → D.σ (i + 1) id = some o → o.row.inn (fun id => (D.dom i).contains id || (Nat.ble (D.n i) id && Nat.blt id (D.n (i + 1)))) = true
  value : ∀ (i : Nat), i < ops.size → D.act i = true → D.pur i = false → (D.v i).inn (fun id => (D.dom i).contains id || (Nat.ble (D.n i) id && Nat.blt id (D.n (i + 1)))) = true
  pdoes : ∀ (i : Nat) (o : Oper), ops[i]? = some o → D.act i = true → D.pur i = true → POp P ρ o (D.fr i) (D.v i) ∧ D.n (i + 1) = D.n i ∧ D.wr i = []
  does : ∀ (i : Nat) (o : Oper), ops[i]? = some o → D.act i = true → D.pur i = false → TOp P ρ o (D.fr i) (D.n i) (fun id => if (D.dom i).contains id then D.σ i id else none) (D.v i) (D.n (i + 1)) (fun id => if (D.dom i).contains id || (D.wr i).contains id then D.σ (i + 1) id else none)

/-! ### one thing that is written now and then -/
section gen
variable {α : Type} (val : Nat → α) (wr : Nat → Bool) (m : Nat)
def valL (L : Nat → Bool) : α := match last (fun j => L j && wr j) m with
  | some j => val (j + 1)
  | none => val 0
variable {val wr m} (hk : ∀ j, j < m → wr j = false → val (j + 1) = val j)
include hk
theorem val_at : ∀ i, i ≤ m → val i = (match last wr i with
    | some j => val (j + 1)
    | none => val 0)
  | 0, _ => rfl
  | i + 1, hi => by
    by_cases h : wr i = true
    · have : last wr (i + 1) = some i := by show (if wr i then some i else last wr i) = _; rw [if_pos h]
      rw [this]
    · have : last wr (i + 1) = last wr i := by show (if wr i then some i else last wr i) = _; rw [if_neg h]
      rw [this, hk i (by omega) (by simpa using h)]
      exact val_at i (by omega)
theorem valL_eq {L : Nat → Bool} {i : Nat} (hi : i ≤ m) (h : ∀ k, k < m → (L k && wr k) = (decide (k < i) && wr k)) : valL val wr m L = val i := by
  unfold valL
  rw [last_congr m h, last_cut m hi (fun k h1 h2 => by simp; intro h3; omega), last_congr i (q := wr) (fun k h1 => by simp [h1]), ← val_at hk i hi]
omit hk in
theorem valL_same {L L' : Nat → Bool} (h : ∀ k, k < m → (L k && wr k) = (L' k && wr k)) : valL val wr m L = valL val wr m L' := by
  unfold valL; rw [last_congr m h]
omit hk in
theorem valL_new {L : Nat → Bool} {i : Nat} (hi : i < m) (hL : L i = true) (hw : wr i = true) (h : ∀ k, i < k → k < m → (L k && wr k) = false) : valL val wr m L = val (i + 1) := by
  unfold valL; rw [last_of hi (by rw [hL, hw]; rfl) h]
end gen

section
variable {P : Program} {ρ : Env} {e nt : Nat} {ops : Array Oper} {D : Lx}

def dstIs (ops : Array Oper) (t : Nat) (j : Nat) : Bool := match ops[j]? with
  | some o => o.dst == some t
  | none => false
def σL (ops : Array Oper) (D : Lx) (L : Nat → Bool) : Sto := fun id => valL (fun j => D.σ j id) (fun j => (D.wr j).contains id) ops.size L
def frL (ops : Array Oper) (D : Lx) (L : Nat → Bool) : Fm := fun t => valL (fun j => D.fr j t) (dstIs ops t) ops.size L

theorem fr_kept (h : LxOk P ρ nt ops D) (t : Nat) : ∀ j, j < ops.size → dstIs ops t j = false → D.fr (j + 1) t = D.fr j t := by
  intro j hj hd
  have ho : ops[j]? = some ops[j] := by simp [hj]
  rw [h.frame j _ ho]
  unfold dstIs at hd
  rw [ho] at hd
  simp only at hd
  unfold upd
  cases hd' : ops[j].dst with
  | none => rfl
  | some d =>
    rw [hd'] at hd
    show (if Nat.beq t d then D.v j else D.fr j t) = D.fr j t
    rw [if_neg (by intro hc; have := Nat.eq_of_beq_eq_true hc; subst this; simp at hd)]

theorem n_mono (h : LxOk P ρ nt ops D) : ∀ (j i : Nat), i ≤ j → j ≤ ops.size → D.n i ≤ D.n j
  | 0, i, hij, _ => by obtain rfl : i = 0 := by omega
                       exact Nat.le_refl _
  | j + 1, i, hij, hj => by
    by_cases e : i = j + 1
    · rw [e]; exact Nat.le_refl _
    · exact Nat.le_trans (n_mono h j i (by omega) (by omega)) (h.mono j (by omega))

/-- what an unlisted operation, all of whose forerunners are listed, meets. -/
theorem meets_lex (h : LxOk P ρ nt ops D) {L : Nat → Bool} (hL : Closed ops L) {i : Nat} {o : Oper} (ho : ops[i]? = some o) (hLi : L i = false) (hr : ∀ e ∈ o.after, Region.binds .any e = true → L e.on = true) (w : Nat → Bool)
    (hw : ∀ k ok, k ≠ i → ops[k]? = some ok → w k = true → hang ops D (min i k) (max i k) (if k < i then ok else o) (if k < i then o else ok) = true) : ∀ k, k < ops.size → (L k && w k) = (decide (k < i) && w k) := by
  intro k hk
  have hok : ops[k]? = some ops[k] := by simp [hk]
  cases hwk : w k with
  | false => simp
  | true =>
    by_cases hki : k < i
    · have hh := hw k _ (by omega) hok hwk
      rw [if_pos hki, if_pos hki, Nat.min_eq_right (by omega), Nat.max_eq_left (by omega)] at hh
      have := ready_bef hL ho hr _ _ (h.order k i _ _ hki hok ho hh)
      simp [this, hki]
    · by_cases e : k = i
      · subst e; simp [hLi]
      · have hh := hw k _ e hok hwk
        rw [if_neg hki, if_neg hki, Nat.min_eq_left (by omega), Nat.max_eq_right (by omega)] at hh
        have hb := h.order i k _ _ (by omega) ho hok hh
        have : L k = false := by
          cases hq : L k with
          | false => rfl
          | true => have := isBef_ok hL _ _ _ hb hq; rw [hLi] at this; cases this
        simp [this, hki]

/-- no listed one behind it hangs on it. -/
theorem none_behind (h : LxOk P ρ nt ops D) {L : Nat → Bool} (hL : Closed ops L) {i : Nat} {o : Oper} (ho : ops[i]? = some o) (hLi : L i = false) {k : Nat} (hik : i < k) {ok : Oper} (hok : ops[k]? = some ok) (hh : hang ops D i k o ok = true) : L k = false := by
  cases hq : L k with
  | false => rfl
  | true => have := isBef_ok hL _ _ _ (h.order i k _ _ hik ho hok hh) hq; rw [hLi] at this; cases this

theorem meets_comm {a b : List Nat} (h : meets a b = true) : meets b a = true := by
  unfold meets at *
  rw [List.any_eq_true] at *
  obtain ⟨x, h1, h2⟩ := h
  exact ⟨x, by simpa using h2, by simpa using h1⟩
theorem meets_of {a b : List Nat} {x : Nat} (h1 : a.contains x = true) (h2 : b.contains x = true) : meets a b = true := by
  unfold meets; rw [List.any_eq_true]; exact ⟨x, by simpa using h1, h2⟩

theorem lemA_σ (h : LxOk P ρ nt ops D) {L : Nat → Bool} (hL : Closed ops L) {i : Nat} {o : Oper} (ho : ops[i]? = some o) (hLi : L i = false) (hr : ∀ e ∈ o.after, Region.binds .any e = true → L e.on = true) {id : Nat} (hid : (D.dom i).contains id = true) :
    σL ops D L id = D.σ i id := by
  have hi : i < ops.size := by rw [Array.getElem?_eq_some_iff] at ho; exact ho.1
  refine valL_eq (fun j hj hw => h.kept j hj id hw) (by omega) (meets_lex h hL ho hLi hr _ fun k ok hne hok hw => ?_)
  unfold hang
  by_cases hki : k < i
  · rw [if_pos hki, if_pos hki, Nat.min_eq_right (by omega), Nat.max_eq_left (by omega), meets_of hw hid]; simp
  · rw [if_neg hki, if_neg hki, Nat.min_eq_left (by omega), Nat.max_eq_right (by omega), meets_of hw hid]; simp

theorem lemA_fr (h : LxOk P ρ nt ops D) {L : Nat → Bool} (hL : Closed ops L) {i : Nat} {o : Oper} (ho : ops[i]? = some o) (hLi : L i = false) (hr : ∀ e ∈ o.after, Region.binds .any e = true → L e.on = true) {t : Nat} (ht : t ∈ o.looksAt ops) :
    frL ops D L t = D.fr i t := by
  have hi : i < ops.size := by rw [Array.getElem?_eq_some_iff] at ho; exact ho.1
  refine valL_eq (fr_kept h t) (by omega) (meets_lex h hL ho hLi hr _ fun k ok hne hok hw => ?_)
  have hd : ok.dst = some t := by unfold dstIs at hw; rw [hok] at hw; simpa using hw
  unfold hang
  have hc : (o.looksAt ops).contains t = true := by simpa using ht
  by_cases hki : k < i
  · rw [if_pos hki, if_pos hki]
    have : ok.apart ops o = false := by simp [Oper.apart, hd, ht]
    rw [this]; simp
  · rw [if_neg hki, if_neg hki]
    have : o.apart ops ok = false := by simp [Oper.apart, hd, ht]
    rw [this]; simp

/-- what holds at each point of whatever order. -/
structure Inv (ρ : Env) (e nt : Nat) (ops : Array Oper) (D : Lx) (β0 : Bt) (w0 : World) (L : Nat → Bool) (β : Bt) (a : Act) (w : World) : Prop where
  sim : SimL ρ β (σL ops D L) w
  top : ∀ id, D.n ops.size ≤ id → β.nm id = none
  free : ∀ i, i < ops.size → L i = false → ∀ id, D.n i ≤ id → id < D.n (i + 1) → β.nm id = none
  frm : FrOk β (frL ops D L) nt a
  step : Step e β0 (D.σ 0) w0 β (σL ops D L) w
  shut : Closed ops L

theorem wants_congr {fr fr' : Fm} {o : Oper} (h : ∀ t ∈ o.looksAt ops, fr t = fr' t) : wants ρ fr ops o = wants ρ fr' ops o := by
  unfold wants
  cases hg : o.guard with
  | none => rfl
  | some jw =>
    obtain ⟨j, want⟩ := jw
    simp only
    cases hd : (ops[j]?).bind (·.dst) with
    | none => rfl
    | some t =>
      have : fr t = fr' t := h t (by unfold Oper.looksAt; rw [hg]; simp only [hd]; simp)
      simp only [this]

theorem opd_look {o : Oper} {x : Operand} (hx : x ∈ o.op.operands) {t : Nat} (e : x = .tmp t) : t ∈ o.looksAt ops := by
  subst e
  exact List.mem_append_left _ (List.mem_filterMap.2 ⟨.tmp t, by simpa using hx, rfl⟩)

def put (L : Nat → Bool) (i : Nat) : Nat → Bool := fun k => if k = i then true else L k

theorem frL_put (h : LxOk P ρ nt ops D) {L : Nat → Bool} (hL : Closed ops L) {i : Nat} {o : Oper} (ho : ops[i]? = some o) (hLi : L i = false) (t : Nat) : frL ops D (put L i) t = upd (frL ops D L) o.dst (D.v i) t := by
  have hi : i < ops.size := by rw [Array.getElem?_eq_some_iff] at ho; exact ho.1
  by_cases hd : o.dst = some t
  · have h1 : frL ops D (put L i) t = D.fr (i + 1) t := by
      refine valL_new hi (by simp [put]) (by unfold dstIs; rw [ho]; simpa using hd) fun k h1 h2 => ?_
      have hok : ops[k]? = some ops[k] := by simp [h2]
      cases hdk : dstIs ops t k with
      | false => simp
      | true =>
        have hdk' : ops[k].dst = some t := by unfold dstIs at hdk; rw [hok] at hdk; simpa using hdk
        have : o.apart ops ops[k] = false := by simp [Oper.apart, hd, hdk']
        have := none_behind h hL ho hLi h1 hok (by unfold hang; rw [this]; simp)
        simp [put, this, show k ≠ i by omega]
    rw [h1, h.frame i o ho]
    unfold upd
    rw [hd]
    simp
  · have h1 : frL ops D (put L i) t = frL ops D L t := by
      refine valL_same fun k hk => ?_
      by_cases e : k = i
      · subst e
        have : dstIs ops t k = false := by unfold dstIs; rw [ho]; simpa using hd
        simp [this]
      · simp [put, e]
    rw [h1]
    unfold upd
    cases hd' : o.dst with
    | none => rfl
    | some d =>
      show _ = if Nat.beq t d then D.v i else frL ops D L t
      rw [if_neg (by intro hc; have := Nat.eq_of_beq_eq_true hc; subst this; exact hd hd')]

theorem σL_put (h : LxOk P ρ nt ops D) {L : Nat → Bool} (hL : Closed ops L) {i : Nat} {o : Oper} (ho : ops[i]? = some o) (hLi : L i = false) (id : Nat) : σL ops D (put L i) id = if (D.wr i).contains id then D.σ (i + 1) id else σL ops D L id := by
  have hi : i < ops.size := by rw [Array.getElem?_eq_some_iff] at ho; exact ho.1
  cases hw : (D.wr i).contains id with
  | true =>
    rw [if_pos rfl]
    refine valL_new hi (by simp [put]) hw fun k h1 h2 => ?_
    have hok : ops[k]? = some ops[k] := by simp [h2]
    cases hwk : (D.wr k).contains id with
    | false => simp
    | true =>
      have := none_behind h hL ho hLi h1 hok (by unfold hang; rw [meets_of hw hwk]; simp)
      simp [put, this, show k ≠ i by omega]
  | false =>
    rw [if_neg (by simp)]
    refine valL_same fun k hk => ?_
    by_cases e : k = i
    · subst e; rw [hw]; simp
    · simp [put, e]

theorem shut_put {L : Nat → Bool} (hL : Closed ops L) {i : Nat} {o : Oper} (ho : ops[i]? = some o) (hr : ∀ e ∈ o.after, Region.binds .any e = true → L e.on = true) : Closed ops (put L i) := by
  intro j oj hj hLj e he hb
  have : L e.on = true := by
    by_cases hji : j = i
    · subst hji; rw [ho] at hj; cases hj; exact hr e he hb
    · exact hL j oj hj (by simpa [put, hji] using hLj) e he hb
  unfold put
  split
  · rfl
  · exact this

/-- one operation more. -/
theorem inv_step (h : LxOk P ρ nt ops D) {β0 : Bt} {w0 : World} {L : Nat → Bool} {β : Bt} {a : Act} {w : World} (hI : Inv ρ e nt ops D β0 w0 L β a w) {i : Nat} {o : Oper} (ho : ops[i]? = some o) (hLi : L i = false) (hr : ∀ e ∈ o.after, Region.binds .any e = true → L e.on = true)
    {K : Act → World → Prop} {Q : Exit → Act → World → Prop} (hK : ∀ β' a' w', Inv ρ e nt ops D β0 w0 (put L i) β' a' w' → K a' w') : wpOp P ops Q i K a w := by
  have hi : i < ops.size := by rw [Array.getElem?_eq_some_iff] at ho; exact ho.1
  have hwant : Region.wanted o (yielded ops a.tmps) = D.act i := by
    refine wanted_of (ρ := ρ) (fr := frL ops D L) (β := β) (nt := nt) hI.sim.env ?_ hI.frm
    rw [wants_congr (fr' := D.fr i) fun t ht => lemA_fr h hI.shut ho hLi hr ht]
    exact h.wants i o ho
  unfold wpOp
  rw [ho]
  simp only [hwant]
  cases hact : D.act i with
  | false =>
    rw [if_neg (by simp)]
    obtain ⟨e1, e2, e3⟩ := h.idle i hi hact
    have hσ : σL ops D (put L i) = σL ops D L := by
      funext id; rw [σL_put h hI.shut ho hLi id, e3]; simp
    refine hK β _ w ⟨by rw [hσ]; exact hI.sim, hI.top, fun j hj hLj id h1 h2 => ?_, ?_, by rw [hσ]; exact hI.step, shut_put hI.shut ho hr⟩
    · by_cases e : j = i
      · subst e; rw [e2] at h2; omega
      · exact hI.free j hj (by simpa [put, e] using hLj) id h1 h2
    · have : frL ops D (put L i) = upd (frL ops D L) o.dst (.tup []) := by funext t; rw [frL_put h hI.shut ho hLi t, e1]
      rw [this]
      exact hI.frm.put (h.dst i o ho) ⟨#[], rfl, trivial⟩
  | true =>
    rw [if_pos rfl]
    refine .inl ?_
    cases hpur : D.pur i with
    | true =>
    obtain ⟨hp, e2, e3⟩ := h.pdoes i o ho hact hpur
    have hσ : σL ops D (put L i) = σL ops D L := by
      funext id; rw [σL_put h hI.shut ho hLi id, e3]; simp
    obtain ⟨x, hx, hR⟩ := hp β a w hI.sim.env (fun x hx => by
      cases x with
      | tmp t => have := hI.frm.1 t; rw [lemA_fr h hI.shut ho hLi hr (opd_look hx rfl)] at this; exact this
      | const v => exact R_ofC β v
      | global g => trivial
      | func f => exact ⟨#[], #[], rfl, trivial, trivial⟩)
    refine wp_val hx (hK β _ w ⟨by rw [hσ]; exact hI.sim, hI.top, fun j hj hLj id h1 h2 => ?_, ?_, by rw [hσ]; exact hI.step, shut_put hI.shut ho hr⟩)
    · by_cases e : j = i
      · subst e; rw [e2] at h2; omega
      · exact hI.free j hj (by simpa [put, e] using hLj) id h1 h2
    · have : frL ops D (put L i) = upd (frL ops D L) o.dst (D.v i) := by funext t; exact frL_put h hI.shut ho hLi t
      rw [this]
      exact hI.frm.put (h.dst i o ho) hR
    | false =>
    let dom : Nat → Bool := (D.dom i).contains
    let σs : Sto := fun id => if (D.dom i).contains id then D.σ i id else none
    let σs' : Sto := fun id => if (D.dom i).contains id || (D.wr i).contains id then D.σ (i + 1) id else none
    let new : Nat → Bool := fun id => Nat.ble (D.n i) id && Nat.blt id (D.n (i + 1))
    let βi : Bt := ⟨β.g, fun id => if dom id then β.nm id else none⟩
    have hnewt : ∀ id, new id = true ↔ D.n i ≤ id ∧ id < D.n (i + 1) := fun id => by simp [new, Nat.blt]; omega
    have hsome : ∀ id, (σs id).isSome = dom id := fun id => by
      cases hd : dom id with
      | true => have := (h.there i hi id hd).1; simp only [σs]; rw [if_pos hd]; exact this
      | false => simp only [σs]; rw [if_neg (by rw [show (D.dom i).contains id = false from hd]; simp)]; rfl
    have hpred : (fun id => (σs id).isSome || new id) = fun id => (D.dom i).contains id || (Nat.ble (D.n i) id && Nat.blt id (D.n (i + 1))) := by
      funext id; rw [hsome id]
    have hle : σs.le (σL ops D L) := fun id ob e => by
      have hd : dom id = true := by rw [← hsome id, e]; rfl
      rw [lemA_σ h hI.shut ho hLi hr hd]
      simp only [σs] at e
      rw [if_pos hd] at e; exact e
    have hβi : ∀ id, (σs id).isSome = true → βi.nm id = β.nm id := fun id e => by rw [hsome id] at e; simp [βi, e]
    have hlt : ∀ id, (σs id).isSome = true → id < D.n i := fun id e => by rw [hsome id] at e; exact (h.there i hi id e).2
    have hagree : ∀ id, dom id = true → ∀ b, β.nm id = some b → βi.nm id = some b := fun id hd b hb => by simp only [βi, hd, if_true]; exact hb
    have hWri : ∀ b, Wr βi σs b → Wr β (σL ops D L) b := by
      rintro b ⟨id, ob, p, e1, e2, e3, e4⟩
      have hd : dom id = true := by rw [← hsome id, e1]; rfl
      simp only [βi, hd, if_true] at e3
      exact ⟨id, ob, p, hle _ _ e1, e2, e3, e4⟩
    have hsimi : Sim ρ (D.n i) βi σs w := by
      refine ⟨⟨hI.sim.env, fun id ob e => ?_, fun id ob id' ob' p p' e hrw e' hne hp hp' => ?_, fun b cs hb => ?_, fun b c hb => ?_⟩, fun id hid => ?_⟩
      · have hd : dom id = true := by rw [← hsome id, e]; rfl
        obtain ⟨p, hp, hok⟩ := hI.sim.ob id ob (hle id ob e)
        have e2 : D.σ i id = some ob := by simp only [σs] at e; rw [if_pos hd] at e; exact e
        exact ⟨p, hagree id hd p hp, hok.keep (fun xs hx => RH.names (β := β) (β' := βi) (Gm.le.refl β.g) hagree hx (h.inside i hi id ob hd e2)) (fun _ _ h => h) (Nat.le_refl _) (fun _ _ => rfl)⟩
      · have hd : dom id = true := by rw [← hsome id, e]; rfl
        have hd' : dom id' = true := by rw [← hsome id', e']; rfl
        simp only [βi, hd, hd', if_true] at hp hp'
        exact hI.sim.sep id ob id' ob' p p' (hle _ _ e) hrw (hle _ _ e') hne hp hp'
      · obtain ⟨k1, k2, k3⟩ := hI.sim.fzs b cs hb
        exact ⟨k1, fun hc => k2 (hWri b hc), k3⟩
      · obtain ⟨k1, k2⟩ := hI.sim.kvs b c hb
        exact ⟨k1, fun hc => k2 (hWri b hc)⟩
      · have : dom id = false := by
          cases hd : dom id with
          | false => rfl
          | true => have := (h.there i hi id hd).2; omega
        simp [βi, this]
    refine h.does i o ho hact hpur βi a w K Q hsimi (fun x hx => ?_) fun x βi' w' hR hS' st => ?_
    · have h1 : R β (opd (D.fr i) x) (a.eval x) := by
        cases x with
        | tmp t => have := hI.frm.1 t; rw [lemA_fr h hI.shut ho hLi hr (opd_look hx rfl)] at this; exact this
        | const v => exact R_ofC β v
        | global g => trivial
        | func f => exact ⟨#[], #[], rfl, trivial, trivial⟩
      exact R.names (β := β) (β' := βi) (p := dom) (Gm.le.refl β.g) hagree h1 (h.names i o ho hact hpur x hx)
    · have hfree : ∀ id, new id = true → β.nm id = none := fun id hn => hI.free i hi hLi id ((hnewt id).1 hn).1 ((hnewt id).1 hn).2
      have hdom' : ∀ id, (σs' id).isSome = true → (σs id).isSome = true ∨ new id = true := fun id e => by
        simp only [σs'] at e
        split at e
        · rename_i hc
          simp only [Bool.or_eq_true] at hc
          rcases hc with hc | hc
          · exact .inl (by rw [hsome id]; exact hc)
          · rcases h.wrote i hi id hc with hd | hd
            · exact .inl (by rw [hsome id]; exact hd)
            · exact .inr ((hnewt id).2 hd)
        · cases e
      have hcells : ∀ id ob, σs' id = some ob → ob.row.inn (fun id => (σs id).isSome || new id) = true := fun id ob e => by
        rw [hpred]
        simp only [σs'] at e
        split at e
        · rename_i hc
          cases hw : (D.wr i).contains id with
          | true => exact h.inside' i hi id ob hw e
          | false =>
            have hd : (D.dom i).contains id = true := by rw [hw] at hc; simpa using hc
            rw [h.kept i hi id hw] at e
            exact Row.inn_mono (fun id' h' => by rw [show (D.dom i).contains id' = true from h']; rfl) (h.inside i hi id ob hd e)
        · cases e
      obtain ⟨s1, s2, s4, s3⟩ := frameL (n := D.n i) (τ := σL ops D L) hI.sim hle hβi hlt rfl st hS'.toSimL hfree hdom' hcells
      have hτ : (fun id => if (σs id).isSome || new id then σs' id else σL ops D L id) = σL ops D (put L i) := by
        funext id
        rw [σL_put h hI.shut ho hLi id]
        by_cases hc : ((σs id).isSome || new id) = true
        · rw [if_pos hc]
          cases hw : (D.wr i).contains id with
          | true => simp only [σs', hw, Bool.or_true, if_true]
          | false =>
            rw [if_neg (by simp)]
            have hd : dom id = true := by
              rcases Bool.or_eq_true _ _ ▸ hc with hc | hc
              · rw [hsome id] at hc; exact hc
              · have := h.made i hi id ((hnewt id).1 hc).1 ((hnewt id).1 hc).2; rw [hw] at this; cases this
            have hd' : (D.dom i).contains id = true := hd
            simp only [σs', hd', Bool.true_or, if_true]
            rw [h.kept i hi id hw, lemA_σ h hI.shut ho hLi hr hd]
        · rw [if_neg hc]
          have hw : (D.wr i).contains id = false := by
            cases hw : (D.wr i).contains id with
            | false => rfl
            | true =>
              exfalso; apply hc
              rcases h.wrote i hi id hw with hd | hd
              · rw [hsome id, show dom id = true from hd]; rfl
              · rw [(hnewt id).2 hd]; simp
          rw [hw, if_neg (by simp)]
      rw [hτ] at s1 s2
      refine hK _ _ w' ⟨s1, fun id hid => ?_, fun j hj hLj id h1 h2 => ?_, ?_, hI.step.trans (s2 e), shut_put hI.shut ho hr⟩
      · have hn : new id = false := by
          cases hn : new id with
          | false => rfl
          | true => have := ((hnewt id).1 hn).2; have := n_mono h ops.size (i + 1) (by omega) (Nat.le_refl _); omega
        simp only [hn]; exact hI.top id hid
      · have hji : j ≠ i := by rintro rfl; simp [put] at hLj
        have hn : new id = false := by
          cases hn : new id with
          | false => rfl
          | true =>
            have h3 := (hnewt id).1 hn
            rcases Nat.lt_or_gt_of_ne hji with hlt | hgt
            · have := n_mono h i (j + 1) (by omega) (by omega); omega
            · have := n_mono h j (i + 1) (by omega) (by omega); omega
        simp only [hn]; exact hI.free j hj (by simpa [put, hji] using hLj) id h1 h2
      · have hfr : frL ops D (put L i) = upd (frL ops D L) o.dst (D.v i) := by funext t; exact frL_put h hI.shut ho hLi t
        rw [hfr]
        exact (hI.frm.mono s4).put (h.dst i o ho) (s3 _ _ (by rw [hpred]; exact h.value i hi hact hpur) hR)

/-- so many are listed. -/
def cnt (L : Nat → Bool) : Nat → Nat
  | 0 => 0
  | m + 1 => cnt L m + if L m then 0 else 1
theorem cnt_zero {L : Nat → Bool} : ∀ {m : Nat}, cnt L m = 0 → ∀ k, k < m → L k = true
  | m + 1, h, k, hk => by
    unfold cnt at h
    by_cases e : k = m
    · subst e
      cases hq : L k with
      | true => rfl
      | false => rw [hq] at h; simp at h
    · exact cnt_zero (m := m) (by split at h <;> omega) k (by omega)
theorem cnt_put {L : Nat → Bool} {i : Nat} (hLi : L i = false) : ∀ {m : Nat}, i < m → cnt L m = cnt (put L i) m + 1
  | m + 1, h => by
    have same : ∀ {m : Nat}, m ≤ i → cnt (put L i) m = cnt L m := by
      intro m
      induction m with
      | zero => intro _; rfl
      | succ m ih => intro hm; unfold cnt; rw [ih (by omega)]; simp [put, show m ≠ i by omega]
    unfold cnt
    by_cases e : i = m
    · subst e; rw [same (Nat.le_refl _), hLi]; simp [put]
    · rw [cnt_put hLi (by omega)]
      simp [put, show m ≠ i from fun h => e h.symm]; omega
theorem least {L : Nat → Bool} : ∀ (m : Nat), (∃ k, k < m ∧ L k = false) → ∃ i, i < m ∧ L i = false ∧ ∀ k, k < i → L k = true
  | 0, ⟨k, hk, _⟩ => by omega
  | m + 1, ⟨k, hk, hL⟩ => by
    by_cases hm : ∃ k, k < m ∧ L k = false
    · obtain ⟨i, h1, h2, h3⟩ := least m hm; exact ⟨i, by omega, h2, h3⟩
    · refine ⟨m, by omega, ?_, fun j hj => ?_⟩
      · by_cases e : k = m
        · subst e; exact hL
        · exact (hm ⟨k, by omega, hL⟩).elim
      · cases hq : L j with
        | true => rfl
        | false => exact (hm ⟨j, hj, hq⟩).elim

theorem all_orders (h : LxOk P ρ nt ops D) {β0 : Bt} {w0 : World} {Q : Exit → Act → World → Prop} (hQ : ∀ β a w, Inv ρ e nt ops D β0 w0 (fun _ => true) β a w → Q .normal a w) :
    ∀ (fuel : Nat) (listed : Array Bool) (β : Bt) (a : Act) (w : World), listed.size = ops.size → cnt (fun k => listed.getD k false) ops.size ≤ fuel → Inv ρ e nt ops D β0 w0 (fun k => listed.getD k false) β a w → wpAny P .any ops Q fuel listed a w := by
  have full : ∀ (listed : Array Bool) (β : Bt) (a : Act) (w : World), (∀ k, k < ops.size → listed.getD k false = true) → Inv ρ e nt ops D β0 w0 (fun k => listed.getD k false) β a w → Q .normal a w := by
    intro listed β a w hall hI
    have e1 : σL ops D (fun k => listed.getD k false) = σL ops D (fun _ => true) := by
      funext id; exact valL_same fun k hk => by rw [hall k hk]
    have e2 : frL ops D (fun k => listed.getD k false) = frL ops D (fun _ => true) := by
      funext id; exact valL_same fun k hk => by rw [hall k hk]
    refine hQ β a w ⟨by rw [← e1]; exact hI.sim, hI.top, fun i hi hL => (by cases hL), by rw [← e2]; exact hI.frm, by rw [← e1]; exact hI.step, fun _ _ _ _ _ _ _ => rfl⟩
  have allOf : ∀ (listed : Array Bool), listed.size = ops.size → Region.ready .any ops listed = [] → ∀ k, k < ops.size → listed.getD k false = true := by
    intro listed hsz hr k hk
    cases hq : listed.getD k false with
    | true => rfl
    | false =>
      obtain ⟨i, h1, h2, h3⟩ := least (L := fun k => listed.getD k false) ops.size ⟨k, hk, hq⟩
      have hmem : i ∈ Region.ready .any ops listed := by
        rw [mem_ready]
        refine ⟨?_, ops[i], by simp [h1], fun e he hb => ?_⟩
        · have : listed.getD i true = listed.getD i false := by simp [hsz, h1]
          rw [this]; exact h2
        · exact h3 e.on (h.edges i ops[i] (by simp [h1]) e he hb)
      rw [hr] at hmem; cases hmem
  intro fuel
  induction fuel with
  | zero =>
    intro listed β a w hsz hc hI
    have hall := cnt_zero (L := fun k => listed.getD k false) (m := ops.size) (by omega)
    refine ⟨?_, full listed β a w hall hI⟩
    cases hr : Region.ready .any ops listed with
    | nil => rfl
    | cons i l =>
      have hmem : i ∈ Region.ready .any ops listed := by rw [hr]; simp
      obtain ⟨hun, o, ho, _⟩ := mem_ready.1 hmem
      have hi : i < ops.size := by rw [Array.getElem?_eq_some_iff] at ho; exact ho.1
      have h1 := hall i hi
      have : listed.getD i true = listed.getD i false := by simp [hsz, hi]
      rw [this] at hun
      rw [show listed.getD i false = true from h1] at hun; cases hun
  | succ fuel ih =>
    intro listed β a w hsz hc hI
    refine ⟨fun hr => full listed β a w (allOf listed hsz hr) hI, fun i hmem => ?_⟩
    obtain ⟨hun, o, ho, hready⟩ := mem_ready.1 hmem
    have hi : i < ops.size := by rw [Array.getElem?_eq_some_iff] at ho; exact ho.1
    have hLi : listed.getD i false = false := by
      have : listed.getD i true = listed.getD i false := by simp [hsz, hi]
      rw [← this]; exact hun
    have hput : (fun k => (listed.setIfInBounds i true).getD k false) = put (fun k => listed.getD k false) i := by
      funext k
      unfold put
      by_cases e : k = i
      · subst e; simp [hsz, hi]
      · rw [if_neg e]; exact getD_set_ne false (fun h => e h.symm)
    refine inv_step h hI ho hLi hready fun β' a' w' hI' => ih _ β' a' w' (by simpa using hsz) ?_ (by rw [hput]; exact hI')
    rw [hput]
    have := cnt_put (L := fun k => listed.getD k false) hLi hi
    omega

theorem Sim.drewR {n : Nat} {β : Bt} {σ : Sto} {w : World} (hS : Sim ρ n β σ w) : Sim ρ n β σ { w with drawn := w.drawn + 1 } ∧ Step e β σ w β σ { w with drawn := w.drawn + 1 } :=
  ⟨⟨⟨hS.env, fun id o e => by
      obtain ⟨q, hq, hok⟩ := hS.ob id o e
      exact ⟨q, hq, hok.keep (fun _ h => h) (fun _ _ h => h) (Nat.le_refl _) (fun _ _ => rfl)⟩, hS.sep, hS.fzs, hS.kvs⟩, hS.fresh⟩,
   ⟨Bt.le.refl _ β, rfl, rfl, rfl, Nat.le_refl _, fun _ _ _ _ => rfl, fun b h => .inl h, fun b cs h => .inl h, fun b c h => .inl h⟩⟩

/-- **Whatever the order: the text's.** -/
theorem TC.drawn (hm : P.follows .mixedOrders = true) (h : LxOk P ρ nt ops D) {id : Nat} : TC P ρ e nt (.region id ops true) (D.fr 0) (D.n 0) (D.σ 0) .normal (D.fr ops.size) (D.n ops.size) (D.σ ops.size) := by
  intro β a w Q hS hF hQ
  refine wp_region_any hm ?_
  obtain ⟨hS1, st1⟩ := Sim.drewR (e := e) hS
  have e1 : σL ops D (fun _ => true) = D.σ ops.size := by
    funext id; exact valL_eq (fun j hj hw => h.kept j hj id hw) (Nat.le_refl _) fun k hk => by simp [hk]
  have e2 : frL ops D (fun _ => true) = D.fr ops.size := by
    funext t; exact valL_eq (fr_kept h t) (Nat.le_refl _) fun k hk => by simp [hk]
  have z : ∀ k, (Array.replicate ops.size false).getD k false = false := fun k => by
    by_cases hk : k < ops.size <;> simp [hk]
  have z1 : σL ops D (fun k => (Array.replicate ops.size false).getD k false) = D.σ 0 := by
    funext id; exact valL_eq (fun j hj hw => h.kept j hj id hw) (Nat.zero_le _) fun k hk => by rw [z k]; simp
  have z2 : frL ops D (fun k => (Array.replicate ops.size false).getD k false) = D.fr 0 := by
    funext t; exact valL_eq (fr_kept h t) (Nat.zero_le _) fun k hk => by rw [z k]; simp
  have cle : ∀ (L : Nat → Bool) (m : Nat), cnt L m ≤ m := fun L m => by
    induction m with
    | zero => exact Nat.le_refl _
    | succ m ih => unfold cnt; split <;> omega
  refine all_orders (e := e) h (β0 := β) (w0 := w) (fun β' a' w' hI => hQ β' a' w' ⟨by rw [← e1]; exact hI.sim, hI.top⟩ (by rw [← e2]; exact hI.frm) (by rw [← e1]; exact hI.step)) ops.size _ β a _ (by simp) (cle _ _)
    ⟨by rw [z1]; exact hS1.toSimL, fun id hid => hS.fresh id (Nat.le_trans (n_mono h ops.size 0 (Nat.zero_le _) (Nat.le_refl _)) hid),
     fun i hi _ id h1 _ => hS.fresh id (Nat.le_trans (n_mono h i 0 (Nat.zero_le _) (by omega)) h1), by rw [z2]; exact hF, by rw [z1]; exact st1, fun j o hj hL => by rw [z j] at hL; cases hL⟩
end
end Go.Proofs.Ytnklnboglijcbaa.E
