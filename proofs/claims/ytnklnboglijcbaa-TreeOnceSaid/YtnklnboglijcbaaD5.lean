/- Code, calls and results: what a function does to values and objects. Plain Lean over the kit's model; no program. -/
import Derived.Test.YtnklnboglijcbaaD3
import Derived.Control
import Derived.LoopN
import Derived.Tactics
namespace Go.Proofs.Ytnklnboglijcbaa.D
open Go Go.RowKit
set_option linter.unusedVariables false

inductive Out where
  | normal
  | exit (id : Nat)
  | ret
  deriving DecidableEq

def Out.ex : Out → Exit
  | .normal => .normal
  | .exit id => .exit id
  | .ret => .ret

def upd (fr : Fr) (d : Option Tmp) (v : V) : Fr := match d with
  | some d => fun t => if t = d then v else fr t
  | none => fr

def FrOk (β : Bt) (fr : Fr) (nt : Nat) (a : Act) : Prop := (∀ t, R β (fr t) (a.tmps.getD t undef)) ∧ a.tmps.size = nt ∧ a.defers = []

theorem FrOk.opd {β : Bt} {fr : Fr} {nt : Nat} {a : Act} (h : FrOk β fr nt a) (x : Operand) : R β (opd fr x) (a.eval x) := by
  cases x with
  | tmp t => exact h.1 t
  | const v => exact R_ofC β v
  | global g => trivial
  | func f => exact ⟨#[], #[], rfl, trivial, trivial⟩
theorem FrOk.mono {β β' : Bt} {fr : Fr} {nt : Nat} {a : Act} (h : FrOk β fr nt a) (hb : β.le β') : FrOk β' fr nt a := ⟨fun t => (h.1 t).mono hb, h.2⟩
theorem FrOk.put {β : Bt} {fr : Fr} {nt : Nat} {a : Act} (h : FrOk β fr nt a) {d : Option Tmp} {v : V} {x : Value} (hd : ∀ t, d = some t → t < nt) (hv : R β v x) : FrOk β (upd fr d v) nt (a.put d x) := by
  cases d with
  | none => exact h
  | some d =>
    refine ⟨fun t => ?_, by simp [Act.put, h.2.1], by simp [Act.put, h.2.2]⟩
    have hd' : d < a.tmps.size := by rw [h.2.1]; exact hd d rfl
    by_cases e : t = d
    · subst e; simpa [upd, Act.put, hd'] using hv
    · have : (a.put (some d) x).tmps.getD t undef = a.tmps.getD t undef := by simp [Act.put, Array.getElem?_setIfInBounds_ne (Ne.symm e)]
      rw [this]; simp only [upd, if_neg e]; exact h.1 t

/-- A piece of code: slots, first free name, objects before; how it ends; slots, first free name, objects behind it. -/
def TC (P : Program) (nt : Nat) (c : Code) (fr : Fr) (n : Nat) (σ : Sto) (o : Out) (fr' : Fr) (n' : Nat) (σ' : Sto) : Prop :=
  ∀ (β : Bt) (a : Act) (w : World) (Q : Exit → Act → World → Prop), Sim n β σ w → FrOk β fr nt a →
    (∀ β' a' w', Sim n' β' σ' w' → FrOk β' fr' nt a' → Step β σ w β' σ' w' → Q o.ex a' w') → c.wp P Q a w

/-- so many rounds of a loop, and out of it. -/
def TR (P : Program) (nt : Nat) (c : Code) (k : Nat) (fr : Fr) (n : Nat) (σ : Sto) (o : Out) (fr' : Fr) (n' : Nat) (σ' : Sto) : Prop :=
  ∀ (β : Bt) (a : Act) (w : World) (Q : Exit → Act → World → Prop), Sim n β σ w → FrOk β fr nt a →
    (∀ β' a' w', Sim n' β' σ' w' → FrOk β' fr' nt a' → Step β σ w β' σ' w' → Q o.ex a' w') → Code.rounds P c Q k a w

section
variable {P : Program} {nt : Nat} {fr fr1 fr' : Fr} {n n1 n' : Nat} {σ σ1 σ' : Sto} {o : Out} {c c' : Code}

theorem TC.skip : TC P nt .skip fr n σ .normal fr n σ := fun β a w Q hS hF hQ => wp_skip (hQ β a w hS hF (Step.refl hS))
theorem TC.ret : TC P nt .ret fr n σ .ret fr n σ := fun β a w Q hS hF hQ => wp_ret (hQ β a w hS hF (Step.refl hS))
theorem TC.exit {id : Nat} : TC P nt (.exit id) fr n σ (.exit id) fr n σ := fun β a w Q hS hF hQ => wp_exit (hQ β a w hS hF (Step.refl hS))

theorem TC.seq (h1 : TC P nt c fr n σ .normal fr1 n1 σ1) (h2 : TC P nt c' fr1 n1 σ1 o fr' n' σ') : TC P nt (.seq c c') fr n σ o fr' n' σ' :=
  fun β a w Q hS hF hQ => wp_seq (h1 β a w _ hS hF fun β1 a1 w1 hS1 hF1 st1 => h2 β1 a1 w1 Q hS1 hF1 fun β2 a2 w2 hS2 hF2 st2 => hQ β2 a2 w2 hS2 hF2 (st1.trans st2))
theorem TC.seqOut (h1 : TC P nt c fr n σ o fr' n' σ') (ho : o ≠ .normal) : TC P nt (.seq c c') fr n σ o fr' n' σ' :=
  fun β a w Q hS hF hQ => wp_seq (h1 β a w _ hS hF fun β1 a1 w1 hS1 hF1 st1 => by
    have := hQ β1 a1 w1 hS1 hF1 st1
    cases o <;> first | exact (ho rfl).elim | exact this)
theorem TC.cond {x : Operand} {b : Bool} (hx : opd fr x = .sc (.bool b)) (h : TC P nt (if b then c else c') fr n σ o fr' n' σ') : TC P nt (.cond x c c') fr n σ o fr' n' σ' :=
  fun β a w Q hS hF hQ => by
    have := hF.opd x
    rw [hx] at this
    exact wp_cond (t := b) this.1 (h β a w Q hS hF hQ)
theorem TC.block {id : Nat} (h : TC P nt c fr n σ o fr' n' σ') (ho : o = .normal ∨ o = .exit id) : TC P nt (.block id c) fr n σ .normal fr' n' σ' :=
  fun β a w Q hS hF hQ => wp_block (h β a w _ hS hF fun β1 a1 w1 hS1 hF1 st1 => by
    have := hQ β1 a1 w1 hS1 hF1 st1
    rcases ho with rfl | rfl
    · exact this
    · simpa [Out.ex, Exit.inBlock] using this)
theorem TC.blockOut {id : Nat} (h : TC P nt c fr n σ o fr' n' σ') (ho : o ≠ .normal) (hi : o ≠ .exit id) : TC P nt (.block id c) fr n σ o fr' n' σ' :=
  fun β a w Q hS hF hQ => wp_block (h β a w _ hS hF fun β1 a1 w1 hS1 hF1 st1 => by
    have := hQ β1 a1 w1 hS1 hF1 st1
    cases o with
    | normal => exact (ho rfl).elim
    | ret => exact this
    | exit j => have hj : j ≠ id := fun e => hi (by rw [e]); simpa [Out.ex, Exit.inBlock, hj] using this)

theorem TC.loop {k : Nat} (h : TR P nt c k fr n σ o fr' n' σ') : TC P nt (.loop c) fr n σ o fr' n' σ' := fun β a w Q hS hF hQ => wp_loop_rounds k (h β a w Q hS hF hQ)
theorem TR.more {k : Nat} (h1 : TC P nt c fr n σ .normal fr1 n1 σ1) (h2 : TR P nt c k fr1 n1 σ1 o fr' n' σ') : TR P nt c (k + 1) fr n σ o fr' n' σ' :=
  fun β a w Q hS hF hQ => h1 β a w _ hS hF fun β1 a1 w1 hS1 hF1 st1 => h2 β1 a1 w1 Q hS1 hF1 fun β2 a2 w2 hS2 hF2 st2 => hQ β2 a2 w2 hS2 hF2 (st1.trans st2)
theorem TR.out {k : Nat} (h : TC P nt c fr n σ o fr' n' σ') (ho : o ≠ .normal) : TR P nt c (k + 1) fr n σ o fr' n' σ' :=
  fun β a w Q hS hF hQ => h β a w _ hS hF fun β1 a1 w1 hS1 hF1 st1 => by
    have := hQ β1 a1 w1 hS1 hF1 st1
    cases o <;> first | exact (ho rfl).elim | exact this

/-! ### a region in the order of its text -/
def wants (fr : Fr) (ops : Array Oper) (o : Oper) : Option Bool :=
  match o.guard with
  | none => some true
  | some (j, want) => match (ops[j]?).bind (·.dst) with
    | some t => match fr t with
      | .sc (.bool b) => some (b == want)
      | .und => if (ops[j]?).isSome then none else none
      | _ => none
    | none => none

/-- operations, one behind the other. -/
def TL (P : Program) (nt : Nat) (ops : Array Oper) (l : List Oper) (fr : Fr) (n : Nat) (σ : Sto) (fr' : Fr) (n' : Nat) (σ' : Sto) : Prop :=
  ∀ (β : Bt) (a : Act) (w : World) (Q : Exit → Act → World → Prop), Sim n β σ w → FrOk β fr nt a →
    (∀ β' a' w', Sim n' β' σ' w' → FrOk β' fr' nt a' → Step β σ w β' σ' w' → Q .normal a' w') → wpList P ops Q l a w

theorem wanted_of {β : Bt} {ops : Array Oper} {op : Oper} {b : Bool} {a : Act} (h : wants fr ops op = some b) (hF : FrOk β fr nt a) : Region.wanted op (yielded ops a.tmps) = b := by
  unfold wants at h
  unfold Region.wanted
  cases hg : op.guard with
  | none => rw [hg] at h; cases h; rfl
  | some jw =>
    obtain ⟨j, want⟩ := jw
    rw [hg] at h
    simp only at h ⊢
    cases hd : (ops[j]?).bind (·.dst) with
    | none => rw [hd] at h; cases h
    | some t =>
      rw [hd] at h
      simp only at h
      cases hv : fr t with
      | sc y =>
        rw [hv] at h
        cases y with
        | bool b' =>
          simp only at h
          have h1 := hF.1 t
          rw [hv] at h1
          have h2 : a.tmps.getD t undef = .bool b' := h1.1
          have h3 : a.tmps[t]? = some (.bool b') := by
            have : (a.tmps.getD t undef) = (a.tmps[t]?).getD undef := by simp
            rw [this] at h2
            cases hq : a.tmps[t]? with
            | none => rw [hq] at h2; cases h2
            | some z => rw [hq] at h2; simp at h2; rw [h2]
          simp only [yielded, hd, Option.bind_some, h3]
          have : (b' == want) = b := by simpa using h
          rw [← this]; rfl
        | _ => cases h
      | und => rw [hv] at h; simp at h
      | _ => rw [hv] at h; cases h

theorem TL.nil {ops : Array Oper} : TL P nt ops [] fr n σ fr n σ := fun β a w Q hS hF hQ => wpList_nil (hQ β a w hS hF (Step.refl hS))
theorem TL.cons {ops : Array Oper} {l : List Oper} {op : Oper} {v : V} (hw : wants fr ops op = some true) (hd : ∀ t, op.dst = some t → t < nt) (h1 : TOp P op fr n σ v n1 σ1) (h2 : TL P nt ops l (upd fr op.dst v) n1 σ1 fr' n' σ') : TL P nt ops (op :: l) fr n σ fr' n' σ' := by
  intro β a w Q hS hF hQ
  refine wpList_step fun K hK => ?_
  rw [if_pos (wanted_of hw hF)]
  exact h1 β a w K Q hS (fun x _ => hF.opd x) fun x β1 w1 hR hS1 st1 => hK _ _ (h2 β1 _ w1 Q hS1 ((hF.mono st1.le).put hd hR) fun β2 a2 w2 hS2 hF2 st2 => hQ β2 a2 w2 hS2 hF2 (st1.trans st2))
theorem TL.idle {ops : Array Oper} {l : List Oper} {op : Oper} (hw : wants fr ops op = some false) (hd : ∀ t, op.dst = some t → t < nt) (h2 : TL P nt ops l (upd fr op.dst .und) n σ fr' n' σ') : TL P nt ops (op :: l) fr n σ fr' n' σ' := by
  intro β a w Q hS hF hQ
  refine wpList_step fun K hK => ?_
  rw [if_neg (by rw [wanted_of hw hF]; simp)]
  exact hK _ _ (h2 β _ w Q hS (hF.put hd trivial) hQ)

theorem TC.region {id : Nat} {l : List Oper} (h : TL P nt l.toArray l fr n σ fr' n' σ') : TC P nt (.region id l.toArray false) fr n σ .normal fr' n' σ' :=
  fun β a w Q hS hF hQ => wp_region_lit (h β a w Q hS hF hQ)
end

/-! ### functions -/
structure Spec (P : Program) (f : FuncId) (args : List V) (n : Nat) (σ : Sto) (r : V) (n' : Nat) (σ' : Sto) : Prop where
  there : ∃ fn, P.funcs[f]? = some fn ∧ (fn.name == "runtime.NumGoroutine") = false ∧ fn.body.isNone = false
  calls : ∀ (β : Bt) (xs : List Value) (w : World), Sim n β σ w → F2 (R β) args xs → Calls P f xs.toArray w (fun e w' => ∃ x β', e = .returned x ∧ R β' r x ∧ Sim n' β' σ' w' ∧ Step β σ w β' σ' w')

def fr0 (args : List V) : Fr := fun t => args.getD t .und

def resCell (P : Program) (fr : Fr) (σ : Sto) : ResultVar → Option V
  | .tmp t => if (fr t).var then some (fr t) else none
  | .cell a t => match fr a with
    | .ptr id off => match σ id with
      | some ob => part P t ob.cells off
      | none => none
    | _ => none
def resV (P : Program) (rs : List ResultVar) (fr : Fr) (σ : Sto) : Option V :=
  match rs.mapM (resCell P fr σ) with
  | some [v] => some v
  | some vs => some (.tup vs)
  | none => none

/-- what a result variable gives, in the model. -/
def resG (tmps : Array Value) : ResultVar → Sem Value
  | .tmp t => pure (tmps.getD t undef)
  | .cell p t => do loadVar t (← asAddr (tmps.getD p undef))

theorem results_eq (fn : Func) (tmps : Array Value) : results fn tmps = (do let vs ← fn.results.mapM (resG tmps); pure (if h : vs.size = 1 then vs[0] else .tuple vs)) := rfl

theorem run_resCell {P : Program} {β : Bt} {fr : Fr} {nt n : Nat} {σ : Sto} {a : Act} {w : World} (hS : Sim n β σ w) (hF : FrOk β fr nt a) {r : ResultVar} {v : V} (h : resCell P fr σ r = some v) :
    ∃ x, (resG a.tmps r).run P w = .ok x w ∧ R2 β v x := by
  cases r with
  | tmp t =>
    simp only [resCell] at h
    split at h
    · rename_i hv; cases h; exact ⟨_, rfl, (hF.1 t).var hv⟩
    · cases h
  | cell p t =>
    simp only [resCell] at h
    split at h
    · rename_i id off hp
      split at h
      · rename_i ob hob
        have h1 := hF.1 p
        rw [hp] at h1
        obtain ⟨ad, e, q, hq, rfl⟩ := (show R0 β (.ptr id off) _ from h1)
        obtain ⟨q', hq', hok⟩ := hS.ob id ob hob
        obtain rfl : q = q' := Option.some.inj (hq.symm.trans hq')
        obtain ⟨x, hx, hR⟩ := run_load' (P := P) hok h
        exact ⟨x, by simp only [resG, e, asAddr, Sem.run_bind, Sem.run_pure, Result.andThen_ok, hx], hR⟩
      · cases h
    · cases h

theorem run_mapM {P : Program} {w : World} {β : Bt} (g : ResultVar → Sem Value) (k : ResultVar → Option V) (hg : ∀ r v, k r = some v → ∃ x, (g r).run P w = .ok x w ∧ R2 β v x) :
    ∀ (rs : List ResultVar) (vs : List V), rs.mapM k = some vs → ∃ xs : List Value, (rs.mapM g).run P w = .ok xs w ∧ F2 (R2 β) vs xs
  | [], vs, h => by simp at h; subst h; exact ⟨[], rfl, trivial⟩
  | r :: rs, vs, h => by
    rw [List.mapM_cons] at h
    cases hk : k r with
    | none => rw [hk] at h; cases h
    | some v =>
      rw [hk] at h
      cases hks : rs.mapM k with
      | none => rw [hks] at h; cases h
      | some vs' =>
        rw [hks] at h
        have h' : v :: vs' = vs := by simpa using h
        subst h'
        obtain ⟨x, hx, hR⟩ := hg r v hk
        obtain ⟨xs, hxs, hF⟩ := run_mapM g k hg rs vs' hks
        exact ⟨x :: xs, by simp [List.mapM_cons, hx, hxs], hR, hF⟩

theorem run_results {P : Program} {β : Bt} {fr : Fr} {nt n : Nat} {σ : Sto} {a : Act} {w : World} (hS : Sim n β σ w) (hF : FrOk β fr nt a) {fn : Func} {v : V} (h : resV P fn.results.toList fr σ = some v) :
    ∃ x, (results fn a.tmps).run P w = .ok x w ∧ R β v x := by
  unfold resV at h
  cases hm : fn.results.toList.mapM (resCell P fr σ) with
  | none => rw [hm] at h; cases h
  | some vs =>
    obtain ⟨xs, hxs, hFs⟩ := run_mapM (P := P) (w := w) (β := β) (resG a.tmps) (resCell P fr σ) (fun r v hr => run_resCell hS hF hr) fn.results.toList vs hm
    rw [hm] at h
    have hrun : (fn.results.mapM (resG a.tmps)).run P w = .ok xs.toArray w := by
      rw [Array.mapM_eq_mapM_toList, Sem.run_map, hxs]; rfl
    have hl := hFs.length
    rw [results_eq, Sem.run_bind, hrun]
    simp only [Result.andThen_ok, Sem.run_pure]
    match vs, xs, hFs, h with
    | [v1], [x1], hFs, h => cases h; exact ⟨x1, by simp, hFs.1.up⟩
    | [], [], _, h => cases h; exact ⟨.tuple #[], by simp, #[], rfl, trivial⟩
    | v1 :: v2 :: vs, x1 :: x2 :: xs, hFs, h => cases h; exact ⟨.tuple (x1 :: x2 :: xs).toArray, by simp, _, rfl, hFs⟩

theorem Spec.enter {P : Program} {f : FuncId} {fn : Func} {c : Code} {args : List V} {n n' : Nat} {σ σ' : Sto} {fr' : Fr} {o : Out} {r : V} (hf : P.funcs[f]? = some fn) (hn : (fn.name == "runtime.NumGoroutine") = false) (hb : fn.body = some c) (hl : args.length ≤ fn.ntmps)
    (h : TC P fn.ntmps c (fr0 args) n σ o fr' n' σ') (ho : o = .normal ∨ o = .ret) (hr : resV P fn.results.toList fr' σ' = some r) : Spec P f args n σ r n' σ' := by
  refine ⟨⟨fn, hf, hn, by rw [hb]; rfl⟩, fun β xs w hS hA => calls_of_wp hf hb ?_⟩
  have hlen := hA.length
  refine h β _ w _ hS ⟨fun t => ?_, ?_, rfl⟩ fun β1 a1 w1 hS1 hF1 st1 => ?_
  · unfold fr0
    by_cases ht : t < args.length
    · have e1 : args.getD t .und = args[t] := by simp [List.getD, ht]
      have ht' : t < xs.length := by omega
      obtain ⟨x, hx, hR⟩ := hA.get t args[t] (by simp [ht])
      have e2 : (xs.toArray ++ Array.replicate (fn.ntmps - xs.toArray.size) undef).getD t undef = x := by
        have : xs[t]? = some x := hx
        simp [Array.getElem?_append, ht'] at this ⊢
        exact this
      rw [e1, e2]; exact hR
    · have e1 : args.getD t .und = .und := by simp [List.getD, List.getElem?_eq_none (Nat.le_of_not_lt ht)]
      rw [e1]; trivial
  · simp; omega
  · obtain ⟨x, hx, hR⟩ := run_results (P := P) hS1 hF1 hr
    rcases ho with rfl | rfl
    · exact ⟨hF1.2.2, x, hx, x, β1, rfl, hR, hS1, st1⟩
    · exact ⟨hF1.2.2, x, hx, x, β1, rfl, hR, hS1, st1⟩

theorem F2.map {r : V → Value → Prop} {α : Type} (g : α → V) (k : α → Value) : ∀ (l : List α), (∀ x ∈ l, r (g x) (k x)) → F2 r (l.map g) (l.map k)
  | [], _ => trivial
  | x :: l, h => ⟨h x (by simp), F2.map g k l fun y hy => h y (by simp [hy])⟩

theorem R0.toR {β : Bt} {v x} (h : R0 β v x) : R β v x := h.up.up.up

/-- a call, with as few objects as the callee asks for. -/
theorem TOp.call {P : Program} {o : Oper} {fr : Fr} {n n' : Nat} {σ σs σs' : Sto} {x : Operand} {as : Array Operand} {ts : Array TypeId} {g : FuncId} {first cap : List V} {r : V} (h : o.op = .call { callee := .value x, args := as, argTypes := ts }) (hx : opd fr x = .fn (.func g) first cap)
    (hs : σs.le σ) (hc : Spec P g (first ++ as.toList.map (opd fr) ++ cap) n σs r n' σs') : TOp P o fr n σ r n' (Sto.over n σ σs σs') := by
  intro β a w K Q hS ho hk
  have h1 := ho x (by rw [h]; simp [Op.operands, Call.operands])
  rw [hx] at h1
  obtain ⟨ys, zs, e, hF1, hF3⟩ := (show R1 β (.fn (.func g) first cap) (a.eval x) from h1)
  have hF2 : F2 (R β) (as.toList.map (opd fr)) (as.toList.map a.eval) := F2.map _ _ _ fun y hy => ho y (by rw [h]; simp only [Op.operands, Call.operands]; exact Array.mem_append.2 (.inr (by simpa using hy)))
  have hA := ((hF1.mono fun _ _ => R0.toR).app hF2).app (hF3.mono fun _ _ => R0.toR)
  have hcalls := hc.calls β _ w (hS.drop hs) hA
  obtain ⟨fn, hfn, hname, hbody⟩ := hc.there
  unfold Oper.wp
  have hrun : (execOp a.eval o).run P w = .ok (.enter g (ys.toList ++ as.toList.map a.eval ++ zs.toList).toArray) w := by
    unfold execOp
    rw [h]
    simp only [resolve, e, Deferred.ofValue, invoke, callFunc, Sem.run_bind, Sem.run_pure, Result.andThen_ok, run_program, hfn, hname, hbody, Bool.false_eq_true, if_false]
    congr 2
    apply Array.ext'
    simp
  rw [hrun]
  refine hcalls.mono ?_
  rintro e' w' ⟨y, β', rfl, hR, hS', st⟩
  obtain ⟨hS'', st'⟩ := frame hS hs st hS'
  exact hk y β' w' hR hS'' st'

/-- no objects. -/
def no : Sto := fun _ => none
theorem no_le (σ : Sto) : no.le σ := fun _ _ h => by cases h

theorem over_no {n : Nat} {β : Bt} {σ : Sto} {w : World} (hS : Sim n β σ w) : Sto.over n σ no no = σ := by
  funext id
  unfold Sto.over
  split
  · rename_i h; exact (hS.none h).symm
  · simp [no]

/-- a call of a function that makes nothing that stays. -/
theorem TOp.callNo {P : Program} {o : Oper} {fr : Fr} {n : Nat} {σ : Sto} {x : Operand} {as : Array Operand} {ts : Array TypeId} {g : FuncId} {r : V} (h : o.op = .call { callee := .value x, args := as, argTypes := ts }) (hx : opd fr x = .fn (.func g) [] [])
    (hc : Spec P g (as.toList.map (opd fr)) n no r n no) : TOp P o fr n σ r n σ := by
  intro β a w K Q hS ho hk
  have := TOp.call (σ := σ) h hx (no_le σ) (by simpa using hc)
  rw [over_no hS] at this
  exact this β a w K Q hS ho hk

/-- a value that bears no name at all. -/
def V.bare1 (v : V) : Bool := match v with
  | .sc _ => true
  | _ => false
def V.bare2 (v : V) : Bool := match v with
  | .agg cs => cs.all V.bare1
  | v => v.bare1
def V.bare (v : V) : Bool := match v with
  | .und => true
  | .tup vs => vs.all V.bare2
  | v => v.bare2

theorem F2.mono_mem {r r' : V → Value → Prop} : ∀ {as xs}, F2 r as xs → (∀ v x, v ∈ as → r v x → r' v x) → F2 r' as xs
  | [], [], _, _ => trivial
  | _ :: _, _ :: _, h, hr => ⟨hr _ _ (by simp) h.1, F2.mono_mem h.2 fun v x hv => hr v x (by simp [hv])⟩

theorem R1.bare {β β' : Bt} {v x} (h : R1 β v x) (hb : v.bare1 = true) : R1 β' v x := by
  cases v with
  | sc y => exact h
  | _ => cases hb
theorem R2.bare {β β' : Bt} {v x} (h : R2 β v x) (hb : v.bare2 = true) : R2 β' v x := by
  cases v with
  | sc y => exact h
  | agg cs =>
    obtain ⟨xs, e, hf⟩ := h
    have hb' : cs.all V.bare1 = true := hb
    rw [List.all_eq_true] at hb'
    exact ⟨xs, e, hf.mono_mem fun v x hv hr => R1.bare hr (hb' v hv)⟩
  | _ => cases hb
theorem R.bare {β β' : Bt} {v x} (h : R β v x) (hb : v.bare = true) : R β' v x := by
  cases v with
  | sc y => exact h
  | agg cs => exact R2.up (R2.bare (β := β) (v := .agg cs) h hb)
  | tup vs =>
    obtain ⟨xs, e, hf⟩ := h
    have hb' : vs.all V.bare2 = true := hb
    rw [List.all_eq_true] at hb'
    exact ⟨xs, e, hf.mono_mem fun v x hv hr => R2.bare hr (hb' v hv)⟩
  | und => trivial
  | _ => cases hb

/-- what it made is forgotten, where the result bears no name. -/
theorem Spec.clean {P : Program} {f : FuncId} {args : List V} {n n' : Nat} {σ σ' : Sto} {r : V} (h : Spec P f args n σ r n' σ') (hr : r.bare = true) (hk : ∀ id o, σ id = some o → σ' id = some o) : Spec P f args n σ r n σ := by
  refine ⟨h.there, fun β xs w hS hA => (h.calls β xs w hS hA).mono ?_⟩
  rintro e w' ⟨x, β', rfl, hR, hS', st⟩
  have hlt : ∀ id o, σ id = some o → id < n := fun id o e => by
    apply Classical.byContradiction; intro hc
    rw [hS.none (Nat.le_of_not_lt hc)] at e; cases e
  have hle : β.le (fun id => if id < n then β' id else none) := fun id p e => by
    by_cases hi : id < n
    · simp only [if_pos hi]; exact st.le _ _ e
    · rw [hS.fresh id (Nat.le_of_not_lt hi)] at e; cases e
  have hb : ∀ id o p, σ id = some o → (if id < n then β' id else none) = some p → β' id = some p ∧ β id = some p := fun id o p e hp => by
    rw [if_pos (hlt id o e)] at hp
    obtain ⟨q, hq, _⟩ := hS.ob id o e
    have := st.le _ _ hq
    rw [hp] at this; cases this
    exact ⟨hp, hq⟩
  refine ⟨x, fun id => if id < n then β' id else none, rfl, hR.bare hr, ⟨?_, ?_, fun id hi => if_neg (by omega)⟩, ⟨hle, st.os, st.tape, st.output, st.size, st.fr, fun id o p e hp => .inl ⟨id, o, p, e, (hb id o p e hp).2, rfl, fun h => h⟩⟩⟩
  · intro id o e
    obtain ⟨p, hp, hlt', hok⟩ := hS'.ob id o (hk id o e)
    refine ⟨p, by simp only [if_pos (hlt id o e)]; exact hp, hlt', ?_⟩
    -- names within cells: of the old objects, all old
    obtain ⟨p0, hp0, hlt0, hok0⟩ := hS.ob id o e
    obtain rfl : p = p0 := Option.some.inj (hp.symm.trans (st.le _ _ hp0))
    cases hrw : o.rw with
    | true =>
      rw [hrw] at hok hok0
      obtain ⟨hd, cur, hg, hs, hl, hf⟩ := hok
      obtain ⟨_, cur0, _, _, _, hf0⟩ := hok0
      refine ⟨hd, cur, hg, hs, hl, F2.of_get hf.length fun i v x hv hx => ?_⟩
      obtain ⟨x', hx', hR'⟩ := hf.get i v hv
      rw [hx] at hx'; cases hx'
      obtain ⟨y, _, hRy⟩ := hf0.get i v hv
      exact cell_names hle st.le hR' hRy
    | false =>
      rw [hrw] at hok hok0
      intro i v hv
      obtain ⟨x', hx', hR'⟩ := hok i v hv
      obtain ⟨y, _, hRy⟩ := hok0 i v hv
      exact ⟨x', hx', cell_names hle st.le hR' hRy⟩
  · intro id o id' o' p p' e hrw e' hne hp hp'
    exact hS'.sep id o id' o' p p' (hk _ _ e) hrw (hk _ _ e') hne (hb id o p e hp).1 (hb id' o' p' e' hp').1
where
  cell_names {β β' β'' : Bt} (h2 : β.le β'') (h1 : β.le β') {v : V} {x y : Value} (h : R1 β' v x) (hy : R1 β v y) : R1 β'' v x := by
    have key : ∀ {v : V} {x y : Value}, R0 β' v x → R0 β v y → R0 β'' v x := by
      intro v x y h hy
      cases v with
      | sc z => exact h
      | ptr id off =>
        obtain ⟨ad, e, q, hq, rfl⟩ := h
        obtain ⟨ad', e', q', hq', _⟩ := hy
        obtain rfl : q = q' := Option.some.inj (hq.symm.trans (h1 _ _ hq'))
        exact ⟨_, e, q, h2 _ _ hq', rfl⟩
      | sl id off len z top cap =>
        obtain ⟨q, c, hq, r⟩ := h
        obtain ⟨q', c', hq', _⟩ := hy
        obtain rfl : q = q' := Option.some.inj (hq.symm.trans (h1 _ _ hq'))
        exact ⟨q, c, h2 _ _ hq', r⟩
      | _ => exact h.elim
    have keys : ∀ {as : List V} {xs ys : List Value}, F2 (R0 β') as xs → F2 (R0 β) as ys → F2 (R0 β'') as xs := by
      intro as
      induction as with
      | nil => intro xs ys h _; cases xs with | nil => trivial | cons => exact h.elim
      | cons a as ih =>
        intro xs ys h hy
        cases xs with
        | nil => exact h.elim
        | cons x xs => cases ys with
          | nil => exact hy.elim
          | cons y ys => exact ⟨key h.1 hy.1, ih h.2 hy.2⟩
    cases v with
    | fn f a b =>
      obtain ⟨xs, ys, e, f1, f2⟩ := h
      obtain ⟨xs', ys', _, g1, g2⟩ := hy
      exact ⟨xs, ys, e, keys f1 g1, keys f2 g2⟩
    | _ =>
      simp only [R1] at h hy ⊢
      exact key h hy

end Go.Proofs.Ytnklnboglijcbaa.D
