/- One operation at a time: what it does to values and objects. Plain Lean over the kit's model; no program. -/
import Derived.Test.YtnklnboglijcbaaD1
import Derived.Laws.CopyRow
import Derived.Laws.IdiomCopy
import Derived.RowKit3
namespace Go.Proofs.Ytnklnboglijcbaa.D
open Go Go.RowKit

abbrev Fr := Nat → V

/-- a value without addresses, as a slot's. -/
def ofC : Value → V
  | .agg cs => if cs.toList.all (·.oneCell') then .agg (cs.toList.map V.sc) else .und
  | .tuple _ => .und
  | v => .sc v

theorem F2.scs (β : Bt) : ∀ (l : List Value), l.all (·.oneCell') = true → F2 (R1 β) (l.map V.sc) l
  | [], _ => trivial
  | x :: l, h => by
    simp only [List.all_cons, Bool.and_eq_true] at h
    exact ⟨(show R1 β (.sc x) x from ⟨rfl, h.1⟩), F2.scs β l h.2⟩

theorem R_ofC (β : Bt) (v : Value) : R β (ofC v) v := by
  unfold ofC
  split
  · split
    · rename_i cs h
      exact ⟨cs, rfl, F2.scs β _ h⟩
    · trivial
  · trivial
  · rename_i h1 h2
    refine ⟨rfl, ?_⟩
    cases v <;> first | rfl | (exact (h1 _ rfl).elim) | (exact (h2 _ rfl).elim)

def opd (fr : Fr) : Operand → V
  | .tmp t => fr t
  | .const v => ofC v
  | .func f => .fn (.func f) [] []
  | .global _ => .und

/-- the value, where it bears no address. -/
def V.flat : V → Option Value
  | .sc x => some x
  | _ => none
def V.val : V → Option Value
  | .sc x => some x
  | .agg cs => (cs.mapM V.flat).map fun l => .agg l.toArray
  | _ => none

theorem val_list {β : Bt} : ∀ {cs : List V} {xs l : List Value}, F2 (R1 β) cs xs → cs.mapM V.flat = some l → xs = l
  | [], [], l, _, h => by simp at h; exact h.symm
  | c :: cs, x :: xs, l, hf, h => by
    rw [List.mapM_cons] at h
    cases c with
    | sc y =>
      simp only [V.flat, Option.bind_eq_bind, Option.bind_some] at h
      cases hq : cs.mapM V.flat with
      | none => rw [hq] at h; cases h
      | some l' =>
        rw [hq] at h
        simp at h
        subst h
        have h1 : x = y := hf.1.1
        rw [h1, val_list hf.2 hq]
    | _ => simp [V.flat] at h

theorem R.val {β : Bt} {v : V} {x y : Value} (h : R β v x) (hv : v.val = some y) : x = y := by
  cases v with
  | sc z => cases hv; exact h.1
  | agg cs =>
    obtain ⟨xs, rfl, hf⟩ := h
    simp only [V.val, Option.map_eq_some_iff] at hv
    obtain ⟨l, hl, rfl⟩ := hv
    have := val_list hf hl
    rw [← this]
  | _ => cases hv

/-- A computation that asks of nothing but the program. -/
def askP {α : Type} (P : Program) : Sem α → Option α
  | .pure a => some a
  | .program k => askP P (k P)
  | _ => none
theorem askP_run {α : Type} {P : Program} : ∀ {s : Sem α} {a : α}, askP P s = some a → ∀ w, s.run P w = .ok a w
  | .pure a, _, h, w => by cases h; rfl
  | .program k, a, h, w => askP_run (s := k P) h w
  | .load .., _, h, _ | .store .., _, h, _ | .new .., _, h, _ | .shape .., _, h, _ | .freeze .., _, h, _ | .frozen .., _, h, _
  | .getObj .., _, h, _ | .setObj .., _, h, _ | .choose .., _, h, _ | .sys .., _, h, _ | .mark .., _, h, _ | .halt .., _, h, _ => by cases h

/-- an operation that asks of no object. -/
def POp (P : Program) (o : Oper) (fr : Fr) (v : V) : Prop :=
  ∀ (β : Bt) (a : Act) (w : World), (∀ x ∈ o.op.operands, R β (opd fr x) (a.eval x)) → ∃ x, (execOp a.eval o).run P w = .ok (.value x) w ∧ R β v x

/-- One operation: slots, first free name and objects before; value, first free name and objects behind it. -/
def TOp (P : Program) (o : Oper) (fr : Fr) (n : Nat) (σ : Sto) (v : V) (n' : Nat) (σ' : Sto) : Prop :=
  ∀ (β : Bt) (a : Act) (w : World) (K : Act → World → Prop) (Q : Exit → Act → World → Prop), Sim n β σ w → (∀ x ∈ o.op.operands, R β (opd fr x) (a.eval x)) →
    (∀ x β' w', R β' v x → Sim n' β' σ' w' → Step β σ w β' σ' w' → K (a.put o.dst x) w') → o.wp P a w K Q

section
variable {P : Program} {o : Oper} {fr : Fr} {n : Nat} {σ : Sto}

theorem wp_val {a : Act} {w w' : World} {K : Act → World → Prop} {Q : Exit → Act → World → Prop} {x : Value} (h : (execOp a.eval o).run P w = .ok (.value x) w') (hk : K (a.put o.dst x) w') : o.wp P a w K Q := by
  unfold Oper.wp; rw [h]; exact hk
theorem wp_skp {a : Act} {w w' : World} {K : Act → World → Prop} {Q : Exit → Act → World → Prop} (h : (execOp a.eval o).run P w = .ok .skip w') (hk : K (a.put o.dst undef) w') : o.wp P a w K Q := by
  unfold Oper.wp; rw [h]; exact hk

/-- an operation that leaves the world alone. -/
theorem TOp.still {v : V} (h : ∀ (β : Bt) (a : Act) (w : World), Sim n β σ w → (∀ x ∈ o.op.operands, R β (opd fr x) (a.eval x)) → ∃ x, (execOp a.eval o).run P w = .ok (.value x) w ∧ R β v x) : TOp P o fr n σ v n σ := by
  intro β a w K Q hS ho hk
  obtain ⟨x, hr, hR⟩ := h β a w hS ho
  exact wp_val hr (hk x β w hR hS (Step.refl hS))

theorem POp.op {v : V} (h : POp P o fr v) : TOp P o fr n σ v n σ := TOp.still fun β a w _ ho => h β a w ho

/-- operands without addresses: the model's own reckoning. -/
theorem POp.reckon {y : Value} (hs : ∀ cs b, o.op ≠ .select cs b) (hv : ∀ x ∈ o.op.operands, ((opd fr x).val).isSome = true)
    (hc : askP P (execOp (fun x => ((opd fr x).val).getD undef) o) = some (.value y)) : POp P o fr ((ofC y)) :=
  fun β a w ho => by
    have he : execOp a.eval o = execOp (fun x => ((opd fr x).val).getD undef) o := execOp_congr o hs fun x hx => by
      obtain ⟨z, hz⟩ := Option.isSome_iff_exists.1 (hv x hx)
      rw [(ho x hx).val hz, hz]; rfl
    exact ⟨y, by rw [he]; exact askP_run hc w, R_ofC β y⟩

theorem POp.move {x : Operand} (h : o.op = .move x ∨ o.op = .assign x) : POp P o fr ((opd fr x)) :=
  fun β a w ho => ⟨a.eval x, by rcases h with h | h <;> (unfold execOp; rw [h]; rfl), ho x (by rcases h with h | h <;> (rw [h]; simp [Op.operands]))⟩

theorem POp.pick {c x y : Operand} {b : Bool} (h : o.op = .pick c x y) (hc : opd fr c = .sc (.bool b)) : POp P o fr ((bif b then opd fr x else opd fr y)) :=
  fun β a w ho => by
    have h1 : a.eval c = .bool b := by have := ho c (by rw [h]; simp [Op.operands]); rw [hc] at this; exact this.1
    refine ⟨if b then a.eval x else a.eval y, ?_, ?_⟩
    · unfold execOp; rw [h]; simp only [h1]; cases b <;> simp [asBool]
    · cases b
      · exact ho y (by rw [h]; simp [Op.operands])
      · exact ho x (by rw [h]; simp [Op.operands])

theorem POp.extract {x : Operand} {i : Nat} {vs : List V} {v : V} (h : o.op = .extract x i) (hx : opd fr x = .tup vs) (hv : vs[i]? = some v) : POp P o fr (v) :=
  fun β a w ho => by
    have h1 := ho x (by rw [h]; simp [Op.operands])
    rw [hx] at h1
    obtain ⟨xs, e, hf⟩ := h1
    obtain ⟨y, hy, hR⟩ := hf.get i v hv
    have hy' : xs[i]? = some y := by simpa using hy
    exact ⟨y, by unfold execOp; rw [h]; simp [Instr.extract, e, hy'], hR.up⟩

theorem POp.nilCheck {x : Operand} {id off : Nat} (h : o.op = .nilCheck x) (hx : opd fr x = .ptr id off) : POp P o fr ((.ptr id off)) :=
  fun β a w ho => by
    have h1 := ho x (by rw [h]; simp [Op.operands])
    rw [hx] at h1
    obtain ⟨ad, e, hat⟩ := (show R0 β (.ptr id off) (a.eval x) from h1)
    exact ⟨a.eval x, by unfold execOp; rw [h]; simp [e], h1⟩

/-! ### sizes -/
def sz (P : Program) (t : TypeId) : Option Nat := (P.info? t).map (·.size)
def isAg : Option TypeDesc → Bool
  | some (.struct _) | some (.array _ _) => true
  | _ => false

theorem run_sz {t k : Nat} (h : sz P t = some k) (w : World) : (sizeOf t).run P w = .ok k w := by
  unfold sz at h
  obtain ⟨i, hi, rfl⟩ := Option.map_eq_some_iff.1 h
  simp [sizeOf, typeInfo, hi]
theorem run_isAg {t : Nat} {d : TypeDesc} (h : P.underlying t = some d) (w : World) : (Go.isAgg t).run P w = .ok (isAg (some d)) w := by
  unfold Go.isAgg
  rw [Sem.run_bind, run_underlying h w]
  cases d <;> rfl

/-! ### loads -/
theorem R1.notAgg {β : Bt} {v x} (h : R1 β v x) : x.cells = #[x] := by
  have := R1.one h
  cases x <;> first | rfl | (simp [Value.oneCell'] at this)

theorem cells_at {β : Bt} {w : World} {p : Bl} {ob : Ob} (hok : ObOk β w p ob) (off : Nat) : ∀ (cs : List V), (∀ i v, cs[i]? = some v → ob.cells[off + i]? = some v) → ∃ xs : List Value, F2 (R1 β) cs xs ∧ ∀ j u, xs[j]? = some u → w.cell? (Addr.add ⟨p.b, p.d + off, none⟩ j) = some u := by
  intro cs
  induction cs generalizing off with
  | nil => intro _; exact ⟨[], trivial, fun j u h => by simp at h⟩
  | cons c cs ih =>
    intro h
    obtain ⟨x, hx, hR⟩ := hok.cell (h 0 c (by simp))
    obtain ⟨xs, hf, hc⟩ := ih (off + 1) (fun i v hv => by have := h (i + 1) v (by simpa using hv); rwa [show off + 1 + i = off + (i + 1) by omega])
    refine ⟨x :: xs, ⟨hR, hf⟩, fun j u hu => ?_⟩
    cases j with
    | zero => simp at hu; subst hu; rw [Addr.add_lit]; simpa using hx
    | succ j =>
      have := hc j u (by simpa using hu)
      rw [Addr.add_lit] at this ⊢
      rwa [show p.d + off + (j + 1) = p.d + (off + 1) + j by omega]

theorem slice_get {α : Type} (l : List α) (off k i : Nat) (v : α) (h : ((l.drop off).take k)[i]? = some v) : l[off + i]? = some v := by
  rw [List.getElem?_take] at h
  split at h
  · rwa [List.getElem?_drop] at h
  · cases h

/-- what is loaded. -/
def part (P : Program) (t : TypeId) (cs : List V) (off : Nat) : Option V :=
  match P.underlying t, sz P t with
  | some d, some k =>
    if isAg (some d) then (if off + k ≤ cs.length then some (.agg ((cs.drop off).take k)) else none)
    else cs[off]?
  | _, _ => none

theorem run_load' {β : Bt} {w : World} {p : Bl} {ob : Ob} {t off : Nat} {v : V} (hok : ObOk β w p ob) (hp : part P t ob.cells off = some v) :
    ∃ x, (loadVar t ⟨p.b, p.d + off, none⟩).run P w = .ok x w ∧ R2 β v x := by
  unfold part at hp
  split at hp
  · rename_i d k hd hk
    split at hp
    · rename_i hag
      split at hp
      · rename_i hlen
        cases hp
        obtain ⟨xs, hf, hc⟩ := cells_at hok off ((ob.cells.drop off).take k) (fun i v hv => slice_get _ _ _ _ _ hv)
        have hl : xs.length = k := by rw [← hf.length]; simp; omega
        have hld := run_loadCells_list (P := P) w ⟨p.b, p.d + off, none⟩ xs hc
        rw [hl] at hld
        refine ⟨.agg xs.toArray, ?_, xs.toArray, rfl, by simpa using hf⟩
        simp [loadVar, run_isAg hd, run_sz hk, hag, hld]
      · cases hp
    · rename_i hag
      obtain ⟨x, hx, hR⟩ := hok.cell hp
      refine ⟨x, ?_, hR.up⟩
      have hag' : isAg (some d) = false := by simpa using hag
      simp [loadVar, run_isAg hd, hag', hx]
  · cases hp

theorem TOp.load {t : TypeId} {x : Operand} {id off : Nat} {ob : Ob} {v : V} (h : o.op = .load t x) (hx : opd fr x = .ptr id off) (hob : σ id = some ob) (hv : part P t ob.cells off = some v) : TOp P o fr n σ v n σ :=
  TOp.still fun β a w hS ho => by
    have h1 := ho x (by rw [h]; simp [Op.operands])
    rw [hx] at h1
    obtain ⟨ad, e, p, hp, rfl⟩ := (show R0 β (.ptr id off) (a.eval x) from h1)
    obtain ⟨q, hq, hok⟩ := hS.ob id ob hob
    obtain rfl : p = q := Option.some.inj (hp.symm.trans hq)
    obtain ⟨y, hy, hR⟩ := run_load' (P := P) hok hv
    exact ⟨y, by unfold execOp; rw [h]; simp [Instr.loadAt, e, Instr.sureAddr, hy], hR.up⟩

/-! ### a new object -/
def Sto.put (σ : Sto) (id : Nat) (o : Ob) : Sto := fun j => if j = id then some o else σ j

theorem Sim.mono {β σ w} {n n' : Nat} (h : Sim n β σ w) (hn : n ≤ n') : Sim n' β σ w := ⟨h.ob, h.sep, fun id hi => h.fresh id (Nat.le_trans hn hi)⟩

theorem new_row {β : Bt} {w : World} (hS : Sim n β σ w) (e : TypeId) (rw_ : Bool) (cs : List V) (xs : Array Value) (fz : Nat × Nat) (hfz : rw_ = true → fz = (0, 0)) (hle : cs.length ≤ xs.size) (hf : F2 (R1 β) cs (xs.toList.take cs.length)) (w' : World)
    (hw : w'.heap = w.heap.push (.cells xs e fz)) (h1 : w'.os = w.os) (h2 : w'.tape = w.tape) (h3 : w'.output = w.output) :
    ∃ β', β' n = some ⟨w.heap.size, 0, xs.size⟩ ∧ Sim (n + 1) β' (σ.put n ⟨cs, rw_, e⟩) w' ∧ Step β σ w β' (σ.put n ⟨cs, rw_, e⟩) w' := by
  let β' : Bt := fun id => if id = n then some ⟨w.heap.size, 0, xs.size⟩ else β id
  have hnew : β' n = some ⟨w.heap.size, 0, xs.size⟩ := by simp [β']
  have hold : ∀ id, id ≠ n → β' id = β id := fun id h => by simp [β', h]
  have hle' : β.le β' := fun id p hp => by
    by_cases e : id = n
    · subst e; rw [hS.fresh id (Nat.le_refl _)] at hp; cases hp
    · rw [hold id e]; exact hp
  have hsize : w'.heap.size = w.heap.size + 1 := by rw [hw]; simp
  have hblk : ∀ b, b < w.heap.size → w'.heap[b]? = w.heap[b]? := fun b hb => by rw [hw, Array.getElem?_push, if_neg (by omega)]
  have hat : w'.heap[w.heap.size]? = some (.cells xs e fz) := by rw [hw]; simp
  have hput : ∀ id o, σ.put n ⟨cs, rw_, e⟩ id = some o → (id = n ∧ o = ⟨cs, rw_, e⟩) ∨ (id ≠ n ∧ σ id = some o) := by
    intro id o h
    unfold Sto.put at h
    split at h
    · exact .inl ⟨by assumption, by cases h; rfl⟩
    · exact .inr ⟨by assumption, h⟩
  refine ⟨β', hnew, ⟨?_, ?_, ?_⟩, ⟨hle', h1, h2, h3, by omega, fun b hb _ => hblk b hb, ?_⟩⟩
  · intro id o h
    rcases hput id o h with ⟨rfl, rfl⟩ | ⟨hne, h⟩
    · refine ⟨_, hnew, by simp [hsize], ?_⟩
      cases rw_ with
      | true => obtain rfl := hfz rfl; exact ⟨rfl, xs, hat, rfl, hle, hf.mono fun _ _ => R1.mono hle'⟩
      | false =>
        intro i v hv
        obtain ⟨x, hx, hR⟩ := hf.get i v hv
        have hi : i < cs.length := (List.getElem?_eq_some_iff.1 hv).1
        rw [List.getElem?_take, if_pos hi] at hx
        refine ⟨x, ?_, R1.mono hle' hR⟩
        rw [Nat.zero_add, cell_of_row w' _ i xs e fz hat]
        simpa using hx
    · obtain ⟨p, hp, hok⟩ := hS.ob id o h
      exact ⟨p, hle' _ _ hp, hok.keep hle' (by omega) (hblk p.b hok.1)⟩
  · intro id o id' o' p p' h hr h' hne hp hp'
    rcases hput id o h with ⟨rfl, rfl⟩ | ⟨hn1, g⟩ <;> rcases hput id' o' h' with ⟨rfl, rfl⟩ | ⟨hn2, g'⟩
    · exact (hne rfl).elim
    · obtain ⟨q, hq, hok⟩ := hS.ob id' o' g'
      rw [hold _ hn2, hq] at hp'; rw [hnew] at hp
      cases hp; cases hp'
      have := hok.1; simp; omega
    · obtain ⟨q, hq, hok⟩ := hS.ob id o g
      rw [hold _ hn1, hq] at hp; rw [hnew] at hp'
      cases hp; cases hp'
      have := hok.1; simp; omega
    · rw [hold _ hn1] at hp; rw [hold _ hn2] at hp'
      exact hS.sep id o id' o' p p' g hr g' hne hp hp'
  · intro id hi
    rw [hold id (by omega)]; exact hS.fresh id (by omega)
  · intro id o p h hp
    rcases hput id o h with ⟨rfl, rfl⟩ | ⟨hn1, h⟩
    · rw [hnew] at hp; cases hp; exact .inr (Nat.le_refl _)
    · rw [hold _ hn1] at hp; exact .inl ⟨id, o, p, h, hp, rfl, fun h => h⟩

/-- the cells of a type's zero value. -/
def zro (P : Program) (t : TypeId) : Option (List V) :=
  match P.info? t with
  | some i => match i.zero with
    | some z => if z.cells.toList.all (·.oneCell') then some (z.cells.toList.map V.sc) else none
    | none => none
  | none => none

theorem run_zro {t : TypeId} {cs : List V} (h : zro P t = some cs) : ∃ z : Value, (∀ w, (zeroValue t).run P w = .ok z w) ∧ cs = z.cells.toList.map V.sc ∧ z.cells.toList.all (·.oneCell') = true := by
  unfold zro at h
  split at h
  · rename_i i hi
    split at h
    · rename_i z hz
      split at h
      · rename_i hall
        cases h
        exact ⟨z, fun w => by simp [zeroValue, typeInfo, hi, hz], rfl, hall⟩
      · cases h
    · cases h
  · cases h

theorem TOp.alloc {t : TypeId} {cs : List V} (h : o.op = .alloc t) (hz : zro P t = some cs) : TOp P o fr n σ (.ptr n 0) (n + 1) (σ.put n ⟨cs, true, t⟩) := by
  intro β a w K Q hS ho hk
  obtain ⟨z, hzr, rfl, hall⟩ := run_zro (P := P) hz
  obtain ⟨β', hn, hS', hst⟩ := new_row hS t true (z.cells.toList.map V.sc) z.cells (0, 0) (fun _ => rfl) (by simp) (by
    rw [List.length_map, List.take_of_length_le (Nat.le_refl _)]; exact F2.scs β _ hall) { w with heap := w.heap.push (.cells z.cells t) } rfl rfl rfl rfl
  refine wp_val (x := .pointer (some ⟨w.heap.size, 0, none⟩)) (w' := { w with heap := w.heap.push (.cells z.cells t) }) ?_ (hk _ β' _ ?_ hS' hst)
  · unfold execOp; rw [h]; simp [Instr.alloc, hzr, newVar, newRow]
  · exact ⟨_, rfl, _, hn, rfl⟩

/-- is it what a variable holds? -/
def V.var : V → Bool
  | .und | .tup _ => false
  | _ => true
theorem R.var {β : Bt} {v x} (h : R β v x) (hv : v.var = true) : R2 β v x := by
  refine R2.of h ?_ ?_
  · rintro rfl; cases hv
  · rintro vs rfl; cases hv

theorem TOp.box {t : TypeId} {x : Operand} (h : o.op = .box t x) (hv : (opd fr x).var = true) : TOp P o fr n σ (.ptr n 0) (n + 1) (σ.put n ⟨(opd fr x).cells, true, t⟩) := by
  intro β a w K Q hS ho hk
  have h1 := (ho x (by rw [h]; simp [Op.operands])).var hv
  have hc := h1.cells
  obtain ⟨β', hn, hS', hst⟩ := new_row hS t true (opd fr x).cells (a.eval x).cells (0, 0) (fun _ => rfl) (by rw [hc.length]; simp) (by
    rw [hc.length, List.take_of_length_le (Nat.le_refl _)]; exact hc) { w with heap := w.heap.push (.cells (a.eval x).cells t) } rfl rfl rfl rfl
  refine wp_val (x := .pointer (some ⟨w.heap.size, 0, none⟩)) (w' := { w with heap := w.heap.push (.cells (a.eval x).cells t) }) ?_ (hk _ β' _ ?_ hS' hst)
  · unfold execOp; rw [h]; simp [Instr.box, newVar, newRow]
  · exact ⟨_, rfl, _, hn, rfl⟩

end
end Go.Proofs.Ytnklnboglijcbaa.D
