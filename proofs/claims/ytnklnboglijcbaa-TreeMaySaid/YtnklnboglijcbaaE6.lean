/- Objects are made, written, moved, kept for good. Plain Lean over the kit's model; no program. -/
import Derived.Test.YtnklnboglijcbaaE5
namespace Go.Proofs.Ytnklnboglijcbaa.E
open Go Go.RowKit
set_option linter.unusedVariables false

def Sto.put (σ : Sto) (id : Nat) (o : Ob) : Sto := fun j => if j = id then some o else σ j
def Sto.del (σ : Sto) (id : Nat) : Sto := fun j => if j = id then none else σ j
theorem put_cases {σ : Sto} {m id : Nat} {ob o : Ob} (h : σ.put m ob id = some o) : (id = m ∧ o = ob) ∨ (id ≠ m ∧ σ id = some o) := by
  unfold Sto.put at h
  split at h
  · exact .inl ⟨by assumption, by cases h; rfl⟩
  · exact .inr ⟨by assumption, h⟩
theorem del_cases {σ : Sto} {m id : Nat} {o : Ob} (h : σ.del m id = some o) : id ≠ m ∧ σ id = some o := by
  unfold Sto.del at h
  split at h
  · cases h
  · exact ⟨by assumption, h⟩
theorem del_le (σ : Sto) (m : Nat) : (σ.del m).le σ := fun _ _ h => (del_cases h).2

section
variable {P : Program} {ρ : Env} {o : Oper} {fr : Fm} {n : Nat} {σ : Sto}
theorem Sim.mono {β σ w} {n n' : Nat} (h : Sim ρ n β σ w) (hn : n ≤ n') : Sim ρ n' β σ w := ⟨h.toSimL, fun id hi => h.fresh id (Nat.le_trans hn hi)⟩

/-- a new name, at a block beyond all or nowhere, among objects some of which may be forgotten. -/
theorem new_in {β : Bt} {w w' : World} {τ : Sto} (hS : Sim ρ n β σ w) (hτ : τ.le σ) (e : TypeId) (r : Row) (q : Option Bl)
    (hq : ∀ β' : Bt, β.all β' → ObOk β' w' q ⟨r, true, e⟩) (hg : ∀ p, q = some p → w.heap.size ≤ p.b ∨ (∃ id o p0, σ id = some o ∧ o.rw = true ∧ β.nm id = some (some p0) ∧ p0.b = p.b ∧ τ id = none)) (hsz : w.heap.size ≤ w'.heap.size)
    (hblk : ∀ b, b < w.heap.size → (∀ p, q = some p → b ≠ p.b) → w'.heap[b]? = w.heap[b]?) (h1 : w'.os = w.os) (h2 : w'.tape = w.tape) (h3 : w'.output = w.output) :
    ∃ β', β'.g = β.g ∧ β'.nm n = some q ∧ Sim ρ (n + 1) β' (τ.put n ⟨r, true, e⟩) w' ∧ Step n β σ w β' (τ.put n ⟨r, true, e⟩) w' := by
  let β' : Bt := ⟨β.g, fun j => if j = n then some q else β.nm j⟩
  have hnew : β'.nm n = some q := by simp [β']
  have hold : ∀ j, j ≠ n → β'.nm j = β.nm j := fun j h => by simp [β', h]
  have hall : β.all β' := ⟨Gm.le.refl _, fun j q0 hq0 => by
    rw [hold j (by rintro rfl; rw [hS.fresh j (Nat.le_refl _)] at hq0; cases hq0)]; exact hq0⟩
  -- an other object's block is not this one
  have hoth : ∀ j o p p', τ j = some o → β.nm j = some (some p') → q = some p → p'.b ≠ p.b ∧ p'.b < w.heap.size := by
    intro j o p p' hj hp' hp
    obtain ⟨q', hq', hok⟩ := hS.ob j o (hτ _ _ hj)
    rw [hp'] at hq'; cases hq'
    refine ⟨?_, hok.1⟩
    rcases hg p hp with h | ⟨id, o0, p0, g1, g2, g3, g4, g5⟩
    · have := hok.1; omega
    · intro hc
      refine hS.sep id o0 j o p0 p' g1 g2 (hτ _ _ hj) ?_ g3 hp' (g4.trans hc.symm)
      rintro rfl; rw [g5] at hj; cases hj
  have hfree : ∀ p, q = some p → β.g.kv p.b = none ∧ ∀ cs, β.g.fz p.b ≠ some cs := by
    intro p hp
    rcases hg p hp with h | ⟨id, o0, p0, g1, g2, g3, g4, g5⟩
    · refine ⟨?_, fun cs hc => ?_⟩
      · cases hk : β.g.kv p.b with
        | none => rfl
        | some c => have := hS.kv_lt hk; omega
      · have := hS.fz_lt hc; omega
    · have hW : Wr β σ p.b := ⟨id, o0, p0, g1, g2, g3, g4⟩
      refine ⟨?_, fun cs hc => (hS.fzs _ _ hc).2.1 hW⟩
      cases hk : β.g.kv p.b with
      | none => rfl
      | some c => exact ((hS.kvs _ _ hk).2 hW).elim
  have hWr' : ∀ b, Wr β' (τ.put n ⟨r, true, e⟩) b → (∃ p, q = some p ∧ p.b = b) ∨ Wr β τ b := by
    rintro b ⟨j, o, p, hj, hr, hp, rfl⟩
    rcases put_cases hj with ⟨rfl, rfl⟩ | ⟨hne, hj⟩
    · rw [hnew] at hp; cases hp; exact .inl ⟨p, rfl, rfl⟩
    · rw [hold j hne] at hp; exact .inr ⟨j, o, p, hj, hr, hp, rfl⟩
  refine ⟨β', rfl, hnew, ⟨⟨hS.env, ?_, ?_, ?_, ?_⟩, ?_⟩, ⟨⟨Gm.le.refl _, fun j q0 _ h => hall.nm j q0 h⟩, h1, h2, h3, hsz, fun b hb hw hk => hblk b hb ?_, ?_, fun b cs h => .inl h, fun b c h => .inl h⟩⟩
  · intro j o hj
    rcases put_cases hj with ⟨rfl, rfl⟩ | ⟨hne, hj⟩
    · exact ⟨q, hnew, hq β' hall⟩
    · obtain ⟨q', hq', hok⟩ := hS.ob j o (hτ _ _ hj)
      refine ⟨q', by rw [hold j hne]; exact hq', hok.keep (fun xs h => h.mono hall) (fun _ _ h => h) hsz ?_⟩
      rintro p' rfl
      exact hblk p'.b hok.1 fun p hp => (hoth j o p p' hj hq' hp).1
  · intro j o j' o' p p' hj hr hj' hne hp hp'
    rcases put_cases hj with ⟨rfl, rfl⟩ | ⟨hn1, k1⟩ <;> rcases put_cases hj' with ⟨rfl, rfl⟩ | ⟨hn2, k2⟩
    · exact (hne rfl).elim
    · rw [hnew] at hp; cases hp
      rw [hold _ hn2] at hp'
      exact fun hc => (hoth j' o' p p' k2 hp' rfl).1 hc.symm
    · rw [hnew] at hp'; cases hp'
      rw [hold _ hn1] at hp
      exact (hoth j o p' p k1 hp rfl).1
    · rw [hold _ hn1] at hp; rw [hold _ hn2] at hp'
      exact hS.sep j o j' o' p p' (hτ _ _ k1) hr (hτ _ _ k2) hne hp hp'
  · intro b cs hb
    obtain ⟨⟨et, f, k1⟩, k2, k3⟩ := hS.fzs b cs hb
    refine ⟨⟨et, f, (hblk b (hS.fz_lt hb) fun p hp hc => (hfree p hp).2 cs (by rw [← hc]; exact hb)).trans k1⟩, fun hc => ?_, k3⟩
    rcases hWr' b hc with ⟨p, hp, rfl⟩ | hc
    · exact (hfree p hp).2 cs hb
    · exact k2 (hc.mono hτ)
  · intro b c hb
    obtain ⟨⟨ob, k1, k2⟩, k3⟩ := hS.kvs b c hb
    have hne : ∀ p, q = some p → b ≠ p.b := fun p hp hc => by
      have h := (hfree p hp).1
      rw [← hc] at h
      have hb' : β.g.kv b = some c := hb
      rw [hb'] at h; cases h
    refine ⟨⟨ob, (hblk b (hS.kv_lt hb) hne).trans k1, k2⟩, fun hc => ?_⟩
    rcases hWr' b hc with ⟨p, hp, rfl⟩ | hc
    · exact hne p hp rfl
    · exact k3 (hc.mono hτ)
  · intro j hj
    rw [hold j (by omega)]; exact hS.fresh j (by omega)
  · intro p hp hc
    rcases hg p hp with h | ⟨id, o0, p0, g1, g2, g3, g4, g5⟩
    · omega
    · exact hw ⟨id, o0, p0, g1, g2, g3, g4.trans hc.symm⟩
  · intro b hb
    rcases hWr' b hb with ⟨p, hp, rfl⟩ | hc
    · rcases hg p hp with h | ⟨id, o0, p0, g1, g2, g3, g4, g5⟩
      · exact .inr h
      · exact .inl ⟨id, o0, p0, g1, g2, g3, g4⟩
    · exact .inl (hc.mono hτ)

/-- a new block. -/
theorem new_row {β : Bt} {w : World} (hS : Sim ρ n β σ w) (e : TypeId) (r : Row) (xs : Array Value) (hr : RH β r xs.toList) (w' : World) (hw : w'.heap = w.heap.push (.cells xs e (0, 0))) (h1 : w'.os = w.os) (h2 : w'.tape = w.tape) (h3 : w'.output = w.output) :
    ∃ β', β'.g = β.g ∧ β'.nm n = some (some ⟨w.heap.size, xs.size⟩) ∧ Sim ρ (n + 1) β' (σ.put n ⟨r, true, e⟩) w' ∧ Step n β σ w β' (σ.put n ⟨r, true, e⟩) w' := by
  have hsize : w'.heap.size = w.heap.size + 1 := by rw [hw]; simp
  refine new_in hS (Sto.le.refl σ) e r (some ⟨w.heap.size, xs.size⟩) (fun β' hb => ⟨by simp [hsize], xs, xs.toList, [], (0, 0), by rw [hw]; simp, rfl, by simp, hr.mono hb, fun _ => rfl, fun h => by cases h⟩)
    (fun p hp => .inl (by cases hp; exact Nat.le_refl _)) (by omega) (fun b hb _ => by rw [hw, Array.getElem?_push, if_neg (by omega)]) h1 h2 h3

/-- the cells of a type's zero value. -/
def zro (P : Program) (t : TypeId) : Option (List V) :=
  match P.info? t with
  | some i => match i.zero with
    | some z => if z.cells.toList.all (·.oneCell') then some (z.cells.toList.map ofC1) else none
    | none => none
  | none => none
theorem run_zro {t : TypeId} {cs : List V} (h : zro P t = some cs) : ∃ z : Value, (∀ w, (zeroValue t).run P w = .ok z w) ∧ cs = z.cells.toList.map ofC1 ∧ z.cells.toList.all (·.oneCell') = true := by
  unfold zro at h
  split at h
  · rename_i i hi
    split at h
    · rename_i z hz
      split at h
      · rename_i hall
        cases h
        exact ⟨z, fun w => by simp [zeroValue, typeInfo, hi, hz], rfl, hall⟩
      · cases h
    · cases h
  · cases h

theorem R_ptr0 {β : Bt} {id b s : Nat} (h : β.nm id = some (some ⟨b, s⟩)) : R β (.ptr id (.lit 0) 0 0) (.pointer (some ⟨b, 0, none⟩)) :=
  ⟨⟨b, s⟩, h, by simp⟩
theorem TOp.alloc {t : TypeId} {cs : List V} (h : o.op = .alloc t) (hz : zro P t = some cs) : TOp P ρ o fr n σ (.ptr n (.lit 0) 0 0) (n + 1) (σ.put n ⟨.any cs, true, t⟩) := by
  intro β a w K Q hS ho hk
  obtain ⟨z, hzr, rfl, hall⟩ := run_zro (P := P) hz
  obtain ⟨β', _, hn, hS', hst⟩ := new_row hS t (.any (z.cells.toList.map ofC1)) z.cells (F2.ofCs β _ hall) { w with heap := w.heap.push (.cells z.cells t) } rfl rfl rfl rfl
  refine wp_val (x := .pointer (some ⟨w.heap.size, 0, none⟩)) (w' := { w with heap := w.heap.push (.cells z.cells t) }) ?_ (hk _ β' _ (R_ptr0 hn) hS' hst)
  unfold execOp; rw [h]; simp [Instr.alloc, hzr, newVar, newRow]

/-- is it what a variable holds? -/
def V.var : V → Bool
  | .und | .tup _ => false
  | _ => true
theorem R.var {β : Bt} {v x} (h : R β v x) (hv : v.var = true) : R2 β v x := by
  refine R2.of h ?_ ?_
  · rintro rfl; cases hv
  · rintro vs rfl; cases hv
theorem TOp.box {t : TypeId} {x : Operand} (h : o.op = .box t x) (hv : (opd fr x).var = true) : TOp P ρ o fr n σ (.ptr n (.lit 0) 0 0) (n + 1) (σ.put n ⟨.any (opd fr x).cells, true, t⟩) := by
  intro β a w K Q hS ho hk
  have h1 := (ho x (by rw [h]; simp [Op.operands])).var hv
  obtain ⟨β', _, hn, hS', hst⟩ := new_row hS t (.any (opd fr x).cells) (a.eval x).cells h1.cells { w with heap := w.heap.push (.cells (a.eval x).cells t) } rfl rfl rfl rfl
  refine wp_val (x := .pointer (some ⟨w.heap.size, 0, none⟩)) (w' := { w with heap := w.heap.push (.cells (a.eval x).cells t) }) ?_ (hk _ β' _ (R_ptr0 hn) hS' hst)
  unfold execOp; rw [h]; simp [Instr.box, newVar, newRow]

/-! ### an own object is written anew; its name stays -/
theorem same_row {β : Bt} {w w' : World} (hS : Sim ρ n β σ w) {id : Nat} {ob : Ob} {p : Bl} (hob : σ id = some ob) (hrw : ob.rw = true) (hp : β.nm id = some (some p)) (r : Row) (cur : Array Value) (xs rest : List Value)
    (hh : w'.heap[p.b]? = some (.cells cur ob.e (0, 0))) (hs : cur.size = p.s) (hc : cur.toList = xs ++ rest) (hr : RH β r xs) (hsz : w'.heap.size = w.heap.size)
    (hoth : ∀ k, k ≠ p.b → w'.heap[k]? = w.heap[k]?) (h1 : w'.os = w.os) (h2 : w'.tape = w.tape) (h3 : w'.output = w.output) :
    Sim ρ n β (σ.put id ⟨r, true, ob.e⟩) w' ∧ Step n β σ w β (σ.put id ⟨r, true, ob.e⟩) w' := by
  have hWp : Wr β σ p.b := ⟨id, ob, p, hob, hrw, hp, rfl⟩
  have hlt := hS.wr_lt hWp
  have hWr' : ∀ b, Wr β (σ.put id ⟨r, true, ob.e⟩) b → Wr β σ b := by
    rintro b ⟨j, o, p', hj, hr', hp', rfl⟩
    rcases put_cases hj with ⟨rfl, rfl⟩ | ⟨hne, hj⟩
    · rw [hp] at hp'; cases hp'; exact hWp
    · exact ⟨j, o, p', hj, hr', hp', rfl⟩
  refine ⟨⟨⟨hS.env, ?_, ?_, ?_, ?_⟩, hS.fresh⟩, ⟨Bt.le.refl _ β, h1, h2, h3, by omega, fun b hb hw _ => hoth b (by rintro rfl; exact hw hWp), fun b hb => .inl (hWr' b hb), fun b cs h => .inl h, fun b c h => .inl h⟩⟩
  · intro j o h
    rcases put_cases h with ⟨rfl, rfl⟩ | ⟨hne, g⟩
    · exact ⟨some p, hp, by omega, cur, xs, rest, (0, 0), hh, hs, hc, hr, fun _ => rfl, fun h => by cases h⟩
    · obtain ⟨q, hq, hok⟩ := hS.ob j o g
      refine ⟨q, hq, hok.keep (fun _ h => h) (fun _ _ h => h) (by omega) ?_⟩
      rintro p' rfl
      exact hoth p'.b fun e => hS.sep id ob j o p p' hob hrw g (Ne.symm hne) hp hq e.symm
  · intro j o j' o' q q' h hr h' hne k1 k2
    rcases put_cases h with ⟨e1, e2⟩ | ⟨hn1, g⟩ <;> rcases put_cases h' with ⟨f1, f2⟩ | ⟨hn2, g'⟩
    · exact (hne (e1.trans f1.symm)).elim
    · rw [e1] at k1 hne; exact hS.sep _ ob j' o' q q' hob hrw g' hne k1 k2
    · rw [f1] at k2 hne; exact fun e => hS.sep _ ob j o q' q hob hrw g (Ne.symm hne) k2 k1 e.symm
    · exact hS.sep j o j' o' q q' g hr g' hne k1 k2
  · intro b cs hb
    obtain ⟨⟨et, f, k1⟩, k2, k3⟩ := hS.fzs b cs hb
    exact ⟨⟨et, f, (hoth b (by rintro rfl; exact k2 hWp)).trans k1⟩, fun hc => k2 (hWr' b hc), k3⟩
  · intro b c hb
    obtain ⟨⟨ob', k1, k2⟩, k3⟩ := hS.kvs b c hb
    exact ⟨⟨ob', (hoth b (by rintro rfl; exact k3 hWp)).trans k1, k2⟩, fun hc => k3 (hWr' b hc)⟩

/-! ### stores -/
def splice {α : Type} (l : List α) (off : Nat) (new : List α) : List α := l.take off ++ new ++ l.drop (off + new.length)
/-- numbers of one kind, or none. -/
def intsOf (k : IntKind) : List V → Option (List E)
  | [] => some []
  | .int k' i :: r => if k = k' then match intsOf k r with
      | some l => some (i :: l)
      | none => none
    else none
  | _ => none
def mkSet (l : L) (i x : E) : L := match i, l with
  | .lit (.ofNat m), l => setN l m x
  | i, l => .set l i x
where
  setN : L → Nat → E → L
    | .cons e l, 0, x => .cons x l
    | .cons e l, m + 1, x => .cons e (setN l m x)
    | l, m, x => .set l (.lit (.ofNat m)) x
theorem setN_den (ρ : Env) (x : E) : ∀ (l : L) (m : Nat), (mkSet.setN l m x).den ρ = (l.den ρ).set m (x.den ρ)
  | .cons e l, 0 => by simp [mkSet.setN, L.den]
  | .cons e l, m + 1 => by simp [mkSet.setN, L.den, setN_den ρ x l m]
  | .nil, m | .var _, m | .at .., m | .cat .., m | .cut .., m | .sub .., m | .set .., m | .rep .., m | .byt .., m | .app .., m | .ite .., m => by simp [mkSet.setN, L.den, E.den]
theorem mkSet_den (ρ : Env) (l : L) (i x : E) : (mkSet l i x).den ρ = (l.den ρ).set (i.den ρ).toNat (x.den ρ) := by
  unfold mkSet
  split
  · rw [setN_den]; rfl
  · rfl
/-- a row with other cells from a place on; what must hold. -/
def Row.store (r : Row) (i : E) (z c : Nat) (new : List V) : Option (Row × List B) := match r with
  | .any cs => match i with
    | .lit (.ofNat m) => if Nat.ble (m * z + c + new.length) cs.length then some (.any (splice cs (m * z + c) new), []) else none
    | _ => if Nat.beq z 0 && Nat.ble (c + new.length) cs.length then some (.any (splice cs c new), []) else none
  | .ints k l => match idxE i z c, new with
    | some e, [.int k' x] => if k = k' then some (.ints k (mkSet l e x), [inB e (mkLen l)]) else none
    | _, _ => none
  | .recs _ _ _ => none

theorem F2.splice {r : V → Value → Prop} {as : List V} {xs : List Value} {new : List V} {ys : List Value} (h : F2 r as xs) (hn : F2 r new ys) (off : Nat) : F2 r (splice as off new) (splice xs off ys) := by
  unfold E.splice
  rw [hn.length]
  exact ((h.take off).app hn).app (h.drop _)
theorem RH.store {β : Bt} {r r' : Row} {xs ys : List Value} {i : E} {z c : Nat} {new : List V} {bs : List B} (h : RH β r xs) (hn : F2 (R1 β) new ys) (hs : r.store i z c new = some (r', bs)) (hb : ∀ b ∈ bs, b.den β.g.env = true) :
    RH β r' (splice xs ((i.den β.g.env).toNat * z + c) ys) ∧ (i.den β.g.env).toNat * z + c + ys.length ≤ xs.length := by
  have hl := hn.length
  cases r with
  | any vs =>
    have hf : F2 (R1 β) vs xs := h
    have hvl := hf.length
    unfold Row.store at hs
    simp only at hs
    split at hs
    · rename_i m
      split at hs
      · rename_i hle
        have hle := Nat.le_of_ble_eq_true hle
        cases hs
        simp only [E.den, Int.ofNat_eq_natCast, Int.toNat_natCast]
        exact ⟨hf.splice hn _, by omega⟩
      · cases hs
    · split at hs
      · rename_i hc
        simp only [Bool.and_eq_true] at hc
        have hle := Nat.le_of_ble_eq_true hc.2
        have hz := Nat.eq_of_beq_eq_true hc.1
        cases hs
        subst hz
        simp only [Nat.mul_zero, Nat.zero_add]
        exact ⟨hf.splice hn _, by omega⟩
      · cases hs
  | ints k l =>
    have hx : xs = (l.den β.g.env).map (.int k) := by simpa only [RH, Fr] using h
    subst hx
    unfold Row.store at hs
    simp only at hs
    split at hs
    · rename_i e k' x he
      split at hs
      · rename_i hk
        subst hk
        cases hs
        have h0 := idxE_ok (ρ := β.g.env) he
        have h1 := inB_den (hb _ (List.mem_singleton.2 rfl))
        rw [mkLen_den] at h1
        rw [← h0]
        match ys, hl with
        | [y], _ =>
          have hy : y = .int k (x.den β.g.env) := by have := hn.1; simpa only [R1, R0, F1] using this
          subst hy
          refine ⟨?_, by simp; omega⟩
          simp only [RH, Fr, mkSet_den, List.map_set]
          unfold E.splice
          rw [List.set_eq_take_append_cons_drop, if_pos (by simp; omega)]
          simp
      · cases hs
    · cases hs
  | recs => cases hs

theorem TOp.store {t k : Nat} {x y : Operand} {id z c : Nat} {i : E} {ob : Ob} {r : Row} {bs : List B} (h : o.op = .store t x y) (hx : opd fr x = .ptr id i z c) (hob : σ id = some ob) (hrw : ob.rw = true) (hy : (opd fr y).var = true)
    (hk : sz P t = some k) (hcl : (opd fr y).cells.length = k) (hs : ob.row.store i z c (opd fr y).cells = some (r, bs)) (hb : ∀ b ∈ bs, b.den ρ = true) : TOp P ρ o fr n σ .und n (σ.put id ⟨r, true, ob.e⟩) := by
  intro β a w K Q hS ho hK
  have h1 := ho x (by rw [h]; simp [Op.operands])
  rw [hx] at h1
  obtain ⟨p, hp, e⟩ := (show R0 β (.ptr id i z c) (a.eval x) from h1)
  obtain ⟨q, hq, hok⟩ := hS.ob id ob hob
  obtain rfl : some p = q := Option.some.inj (hp.symm.trans hq)
  obtain ⟨hlt, cur, xs, rest, fz, hg, hsz, hcur, hRH, hfz, _⟩ := hok
  obtain rfl := hfz hrw
  have hc := ((ho y (by rw [h]; simp [Op.operands])).var hy).cells
  have hcl' := hc.length
  obtain ⟨hRH', hle⟩ := hRH.store hc hs (by rw [hS.env]; exact hb)
  generalize hoff : (i.den β.g.env).toNat * z + c = off at *
  have hxl : xs.length ≤ cur.size := by have := congrArg List.length hcur; simp at this; omega
  have hst := run_storeCells_at P p.b off ob.e (a.eval y).cells.toList 0 cur w hg (by omega) (F2.one hc)
  simp only [Nat.add_zero] at hst
  have hspl : cur.toList.take off ++ (a.eval y).cells.toList ++ cur.toList.drop (off + (a.eval y).cells.toList.length) = splice xs off (a.eval y).cells.toList ++ rest := by
    unfold splice
    rw [hcur, List.take_append_of_le_length (by omega), List.drop_append_of_le_length (by omega)]
    simp
  have hlen : (splice xs off (a.eval y).cells.toList).length = xs.length := by unfold splice; simp at hle ⊢; omega
  obtain ⟨hS', hStep⟩ := same_row (w' := w.setRow p.b (cur.toList.take off ++ (a.eval y).cells.toList ++ cur.toList.drop (off + (a.eval y).cells.toList.length)).toArray) hS hob hrw hp r _ (splice xs off (a.eval y).cells.toList) rest
    (setRow_heap w p.b cur _ ob.e _ hg) (by
      rw [hspl]
      have h4 : cur.size = xs.length + rest.length := by have := congrArg List.length hcur; simpa using this
      simp [hlen, ← hsz, h4]) (by simp only [hspl]) hRH' (by simp) (fun k hk => setRow_other w p.b k _ hk) rfl rfl rfl
  refine wp_skp (w' := w.setRow p.b (cur.toList.take off ++ (a.eval y).cells.toList ++ cur.toList.drop (off + (a.eval y).cells.toList.length)).toArray) ?_ (hK _ β _ trivial hS' hStep)
  have hkc : (a.eval y).cells.size = k := by rw [← hcl, hcl']; simp
  unfold execOp
  rw [h]
  simp only [Instr.storeAt, e, Instr.sureAddr, Sem.run_bind, Sem.run_pure, Result.andThen_ok, storeVar, run_sz hk, hkc, ne_eq, not_true_eq_false, if_false, hst]
end
end Go.Proofs.Ytnklnboglijcbaa.E
