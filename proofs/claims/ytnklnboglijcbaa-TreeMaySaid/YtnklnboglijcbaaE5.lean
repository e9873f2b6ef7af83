/- One operation at a time. Plain Lean over the kit's model; no program. -/
import Derived.Test.YtnklnboglijcbaaE4
import Derived.Laws.MakeOwn
import Derived.Laws.Cover3
import Derived.Laws.Pointers
namespace Go.Proofs.Ytnklnboglijcbaa.E
open Go Go.RowKit
set_option linter.unusedVariables false

abbrev Fm := Nat → V

def litL : List Int → L
  | [] => .nil
  | i :: l => .cons (.lit i) (litL l)
theorem litL_den (ρ : Env) : ∀ l : List Int, (litL l).den ρ = l
  | [] => rfl
  | i :: l => by simp [litL, L.den, E.den, litL_den ρ l]
theorem strOf_self (s : ByteArray) : strOf (s.data.toList.map fun b => (b.toNat : Int)) = s := by
  unfold strOf
  rw [List.map_map]
  have : ((fun i : Int => UInt8.ofNat i.toNat) ∘ fun b : UInt8 => (b.toNat : Int)) = id := by funext b; simp
  rw [this]; simp

/-- one cell without addresses. -/
def ofC1 : Value → V
  | .int k n => .int k (.lit n)
  | .bool b => .bool (.lit b)
  | .string s => .str (litL (s.data.toList.map fun b => (b.toNat : Int)))
  | v => .sc v
/-- a value without addresses, as a slot's. -/
def ofC : Value → V
  | .agg cs => if cs.toList.all (·.oneCell') then .agg (cs.toList.map ofC1) else .und
  | .tuple _ => .und
  | v => ofC1 v
theorem F1_ofC1 (γ : Gm) {x : Value} (h : x.oneCell' = true) : F1 (ofC1 x) γ x := by
  cases x with
  | int k n => simp [ofC1, F1, E.den]
  | bool b => simp [ofC1, F1, B.den]
  | string s => simp [ofC1, F1, litL_den, strOf_self]
  | _ => simpa [ofC1, F1] using h
theorem F2.ofCs (β : Bt) : ∀ (l : List Value), l.all (·.oneCell') = true → F2 (R1 β) (l.map ofC1) l
  | [], _ => trivial
  | x :: l, h => by
    simp only [List.all_cons, Bool.and_eq_true] at h
    exact ⟨(F1.up (F1_ofC1 β.g h.1)).up, F2.ofCs β l h.2⟩
theorem R_ofC (β : Bt) (v : Value) : R β (ofC v) v := by
  unfold ofC
  split
  · split
    · rename_i cs h
      exact ⟨cs, rfl, F2.ofCs β _ h⟩
    · trivial
  · trivial
  · rename_i h1 h2
    refine (F1.up (F1_ofC1 β.g ?_)).toR
    cases v <;> first | rfl | (exact (h1 _ rfl).elim) | (exact (h2 _ rfl).elim)

def opd (fr : Fm) : Operand → V
  | .tmp t => fr t
  | .const v => ofC v
  | .func f => .fn (.func f) [] []
  | .global _ => .und

/-- an operation that asks of no object. -/
def POp (P : Program) (ρ : Env) (o : Oper) (fr : Fm) (v : V) : Prop :=
  ∀ (β : Bt) (a : Act) (w : World), β.g.env = ρ → (∀ x ∈ o.op.operands, R β (opd fr x) (a.eval x)) → ∃ x, (execOp a.eval o).run P w = .ok (.value x) w ∧ R β v x
/-- One operation: slots, first free name and objects before; value, first free name and objects behind it. -/
def TOp (P : Program) (ρ : Env) (o : Oper) (fr : Fm) (n : Nat) (σ : Sto) (v : V) (n' : Nat) (σ' : Sto) : Prop :=
  ∀ (β : Bt) (a : Act) (w : World) (K : Act → World → Prop) (Q : Exit → Act → World → Prop), Sim ρ n β σ w → (∀ x ∈ o.op.operands, R β (opd fr x) (a.eval x)) →
    (∀ x β' w', R β' v x → Sim ρ n' β' σ' w' → Step n β σ w β' σ' w' → K (a.put o.dst x) w') → o.wp P a w K Q

theorem Sim.all {ρ : Env} {n : Nat} {β β' : Bt} {σ σ' : Sto} {w w' : World} (h : Sim ρ n β σ w) (hs : Step n β σ w β' σ' w') : β.all β' :=
  ⟨hs.le.g, fun id q hq => hs.le.nm id q (h.lt hq) hq⟩

section
variable {P : Program} {ρ : Env} {o : Oper} {fr : Fm} {n : Nat} {σ : Sto}

theorem wp_val {a : Act} {w w' : World} {K : Act → World → Prop} {Q : Exit → Act → World → Prop} {x : Value} (h : (execOp a.eval o).run P w = .ok (.value x) w') (hk : K (a.put o.dst x) w') : o.wp P a w K Q := by
  unfold Oper.wp; rw [h]; exact hk
theorem wp_skp {a : Act} {w w' : World} {K : Act → World → Prop} {Q : Exit → Act → World → Prop} (h : (execOp a.eval o).run P w = .ok .skip w') (hk : K (a.put o.dst undef) w') : o.wp P a w K Q := by
  unfold Oper.wp; rw [h]; exact hk

/-- an operation that leaves the world alone. -/
theorem TOp.still {v : V} (h : ∀ (β : Bt) (a : Act) (w : World), Sim ρ n β σ w → (∀ x ∈ o.op.operands, R β (opd fr x) (a.eval x)) → ∃ x, (execOp a.eval o).run P w = .ok (.value x) w ∧ R β v x) : TOp P ρ o fr n σ v n σ := by
  intro β a w K Q hS ho hk
  obtain ⟨x, hr, hR⟩ := h β a w hS ho
  exact wp_val hr (hk x β w hR hS Step.refl)
theorem POp.op {v : V} (h : POp P ρ o fr v) : TOp P ρ o fr n σ v n σ := TOp.still fun β a w hS ho => h β a w hS.env ho

theorem POp.move {x : Operand} (h : o.op = .move x ∨ o.op = .assign x) : POp P ρ o fr (opd fr x) :=
  fun β a w _ ho => ⟨a.eval x, by rcases h with h | h <;> (unfold execOp; rw [h]; rfl), ho x (by rcases h with h | h <;> (rw [h]; simp [Op.operands]))⟩
theorem R_int {β : Bt} {k : IntKind} {e : E} {x : Value} (h : R β (.int k e) x) : x = .int k (e.den β.g.env) := by
  simpa only [R, R2, R1, R0, F1] using h
theorem R_bool {β : Bt} {b : B} {x : Value} (h : R β (.bool b) x) : x = .bool (b.den β.g.env) := by
  simpa only [R, R2, R1, R0, F1] using h
theorem R_str {β : Bt} {l : L} {x : Value} (h : R β (.str l) x) : x = .string (strOf (l.den β.g.env)) := by
  simpa only [R, R2, R1, R0, F1] using h
theorem R_sc {β : Bt} {y x : Value} (h : R β (.sc y) x) : x = y := by
  have : x = y ∧ y.oneCell' = true := by simpa only [R, R2, R1, R0, F1] using h
  exact this.1
theorem R.mkInt (β : Bt) (k : IntKind) {e : E} {n : Int} (h : e.den β.g.env = n) : R β (.int k e) (.int k n) := by
  simp only [R, R2, R1, R0, F1, h]
theorem R.mkBool (β : Bt) {b : B} {n : Bool} (h : b.den β.g.env = n) : R β (.bool b) (.bool n) := by
  simp only [R, R2, R1, R0, F1, h]
theorem R.mkStr (β : Bt) {l : L} {s : ByteArray} (h : strOf (l.den β.g.env) = s) : R β (.str l) (.string s) := by
  simp only [R, R2, R1, R0, F1, h]

theorem POp.pick {c x y : Operand} {b : B} {t : Bool} (h : o.op = .pick c x y) (hc : opd fr c = .bool b) (hb : b.den ρ = t) : POp P ρ o fr (bif t then opd fr x else opd fr y) :=
  fun β a w hρ ho => by
    have h1 : a.eval c = .bool t := by
      have := ho c (by rw [h]; simp [Op.operands]); rw [hc] at this
      rw [R_bool this, hρ, hb]
    refine ⟨if t then a.eval x else a.eval y, ?_, ?_⟩
    · unfold execOp; rw [h]; simp only [h1]; cases t <;> simp [asBool]
    · cases t
      · exact ho y (by rw [h]; simp [Op.operands])
      · exact ho x (by rw [h]; simp [Op.operands])

theorem POp.extract {x : Operand} {i : Nat} {vs : List V} {v : V} (h : o.op = .extract x i) (hx : opd fr x = .tup vs) (hv : vs[i]? = some v) : POp P ρ o fr v :=
  fun β a w _ ho => by
    have h1 := ho x (by rw [h]; simp [Op.operands])
    rw [hx] at h1
    obtain ⟨xs, e, hf⟩ := h1
    obtain ⟨y, hy, hR⟩ := hf.get i v hv
    have hy' : xs[i]? = some y := by simpa using hy
    exact ⟨y, by unfold execOp; rw [h]; simp [Instr.extract, e, hy'], hR.up⟩

/-- a pointer that is none to nothing. -/
def V.isPtr : V → Bool
  | .ptr .. => true
  | .fe .. => true
  | .key .. => true
  | _ => false
theorem R.isPtr {β : Bt} {v : V} {x : Value} (h : R β v x) (hv : v.isPtr = true) : ∃ a, x = .pointer (some a) := by
  cases v with
  | ptr id i z c => obtain ⟨p, _, rfl⟩ := (show R0 β (.ptr id i z c) x from h); exact ⟨_, rfl⟩
  | fe r i z c =>
    have h : F1 (.fe r i z c) β.g x := h
    simp only [F1] at h
    obtain ⟨xs, b, d, full, rfl, _⟩ := h; exact ⟨_, rfl⟩
  | key c s =>
    have h : F1 (.key c s) β.g x := h
    simp only [F1] at h
    obtain ⟨b, rfl, _⟩ := h; exact ⟨_, rfl⟩
  | _ => cases hv
theorem POp.nilCheck {x : Operand} (h : o.op = .nilCheck x) (hx : (opd fr x).isPtr = true) : POp P ρ o fr (opd fr x) :=
  fun β a w _ ho => by
    have h1 := ho x (by rw [h]; simp [Op.operands])
    obtain ⟨ad, e⟩ := h1.isPtr hx
    exact ⟨a.eval x, by unfold execOp; rw [h]; simp [e], h1⟩

/-! ### sizes -/
def sz (P : Program) (t : TypeId) : Option Nat := (P.info? t).map (·.size)
def isAg : Option TypeDesc → Bool
  | some (.struct _) | some (.array _ _) => true
  | _ => false
theorem run_sz {t k : Nat} (h : sz P t = some k) (w : World) : (sizeOf t).run P w = .ok k w := by
  unfold sz at h
  obtain ⟨i, hi, rfl⟩ := Option.map_eq_some_iff.1 h
  simp [sizeOf, typeInfo, hi]
theorem run_isAg {t : Nat} {d : TypeDesc} (h : P.underlying t = some d) (w : World) : (Go.isAgg t).run P w = .ok (isAg (some d)) w := by
  unfold Go.isAgg
  rw [Sem.run_bind, run_underlying h w]
  cases d <;> rfl

/-! ### loads -/
/-- a value of a type, of its cells. -/
def ofSeg (P : Program) (t : TypeId) (cs : List V) : Option V := match P.underlying t with
  | some d => if isAg (some d) then some (.agg cs) else match cs with
    | [v] => some v
    | _ => none
  | none => none
theorem run_seg {β : Bt} {w : World} {b off k t : Nat} {cur : Array Value} {e : TypeId} {fz : Nat × Nat} {cs : List V} {v : V} (hg : w.heap[b]? = some (.cells cur e fz)) (hk : sz P t = some k) (hcl : cs.length = k) (hF : F2 (R1 β) cs ((cur.toList.drop off).take k)) (hv : ofSeg P t cs = some v) :
    ∃ x, (loadVar t ⟨b, off, none⟩).run P w = .ok x w ∧ R2 β v x := by
  have hl := hF.length
  have hcell : ∀ j u, ((cur.toList.drop off).take k)[j]? = some u → w.cell? (Addr.add ⟨b, off, none⟩ j) = some u := by
    intro j u hu
    rw [List.getElem?_take] at hu
    split at hu
    · rw [List.getElem?_drop] at hu
      rw [Addr.add_lit, cell_of_row w b (off + j) cur e fz hg]
      simpa using hu
    · cases hu
  unfold ofSeg at hv
  split at hv
  · rename_i d hd
    split at hv
    · rename_i hag
      cases hv
      have hld := run_loadCells_list (P := P) w ⟨b, off, none⟩ _ hcell
      rw [← hl, hcl] at hld
      refine ⟨.agg (List.take k (List.drop off cur.toList)).toArray, ?_, _, rfl, by simpa using hF⟩
      simp [loadVar, run_isAg hd, hag, run_sz hk, hld]
    · rename_i hag
      split at hv
      · rename_i v'
        cases hv
        obtain ⟨x, hx, hR⟩ := hF.get 0 _ rfl
        have hc := hcell 0 x hx
        rw [Addr.add_lit] at hc
        have hag' : isAg (some d) = false := by simpa using hag
        refine ⟨x, ?_, hR.up⟩
        simp only [Nat.add_zero] at hc
        simp [loadVar, run_isAg hd, hag', hc]
      · cases hv
  · cases hv

theorem List.drop_take_pre {α : Type} {l xs rest : List α} (h : l = xs ++ rest) (off k : Nat) (hf : 0 < k → off + k ≤ xs.length) : (l.drop off).take k = (xs.drop off).take k := by
  subst h
  cases k with
  | zero => simp
  | succ k =>
    have := hf (by omega)
    rw [List.drop_append_of_le_length (by omega), List.take_append_of_le_length (by simp; omega)]

theorem TOp.load {t k : Nat} {x : Operand} {id z c : Nat} {i : E} {ob : Ob} {cs : List V} {bs : List B} {v : V} (h : o.op = .load t x) (hx : opd fr x = .ptr id i z c) (hob : σ id = some ob) (hk : sz P t = some k) (hs : ob.row.seg i z c k = some (cs, bs)) (hb : ∀ b ∈ bs, b.den ρ = true) (hcl : cs.length = k) (hv : ofSeg P t cs = some v) : TOp P ρ o fr n σ v n σ :=
  TOp.still fun β a w hS ho => by
    have h1 := ho x (by rw [h]; simp [Op.operands])
    rw [hx] at h1
    obtain ⟨p, hp, e⟩ := (show R0 β (.ptr id i z c) (a.eval x) from h1)
    obtain ⟨q, hq, hok⟩ := hS.ob id ob hob
    obtain rfl : some p = q := Option.some.inj (hp.symm.trans hq)
    obtain ⟨hlt, cur, xs, rest, fz, hg, hsz, hcur, hRH, _⟩ := hok
    obtain ⟨hF, hle⟩ := hRH.seg hs (by rw [hS.env]; exact hb)
    rw [← List.drop_take_pre hcur _ k hle] at hF
    obtain ⟨y, hy, hR⟩ := run_seg (P := P) hg hk hcl hF hv
    exact ⟨y, by unfold execOp; rw [h]; simp [Instr.loadAt, e, Instr.sureAddr, hy], hR.up⟩

theorem TOp.loadF {t k : Nat} {x : Operand} {z c : Nat} {i : E} {r : Row} {cs : List V} {bs : List B} {v : V} (h : o.op = .load t x) (hx : opd fr x = .fe r i z c) (hk : sz P t = some k) (hs : r.seg i z c k = some (cs, bs)) (hb : ∀ b ∈ bs, b.den ρ = true) (hcl : cs.length = k) (hv : ofSeg P t cs = some v) : TOp P ρ o fr n σ v n σ :=
  TOp.still fun β a w hS ho => by
    have h1 := ho x (by rw [h]; simp [Op.operands])
    rw [hx] at h1
    have h1 : F1 (.fe r i z c) β.g (a.eval x) := h1
    simp only [F1] at h1
    obtain ⟨xs, b, d, full, e, hr, hfz, hxs⟩ := h1
    obtain ⟨⟨et, f, hg⟩, _⟩ := hS.fzs b full hfz
    obtain ⟨hF, hle⟩ := (RH.ofFr hr).seg hs (by rw [hS.env]; exact hb)
    have hF' : F2 (R1 β) cs ((full.toList.drop (d + ((i.den β.g.env).toNat * z + c))).take k) := by
      have : (full.toList.drop (d + ((i.den β.g.env).toNat * z + c))).take k = (xs.drop ((i.den β.g.env).toNat * z + c)).take k := by
        cases k with
        | zero => simp
        | succ k =>
          have h2 := hle (by omega)
          rw [← hxs, List.drop_take, List.take_take, List.drop_drop, Nat.min_eq_left (by omega)]
      rw [this]; exact hF
    obtain ⟨y, hy, hR⟩ := run_seg (P := P) hg hk hcl hF' hv
    rw [← Nat.add_assoc] at hy
    exact ⟨y, by unfold execOp; rw [h]; simp [Instr.loadAt, e, Instr.sureAddr, hy], hR.up⟩
end
end Go.Proofs.Ytnklnboglijcbaa.E
