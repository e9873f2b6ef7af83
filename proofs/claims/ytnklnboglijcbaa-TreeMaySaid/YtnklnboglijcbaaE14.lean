/- Code, calls and results: what a function does to values and objects. Plain Lean over the kit's model; no program. -/
import Derived.Test.YtnklnboglijcbaaE13
namespace Go.Proofs.Ytnklnboglijcbaa.E
open Go Go.RowKit
set_option linter.unusedVariables false

inductive Out where
  | normal
  | exit (id : Nat)
  | ret
  deriving DecidableEq
def Out.ex : Out → Exit
  | .normal => .normal
  | .exit id => .exit id
  | .ret => .ret
def upd (fr : Fm) (d : Option Tmp) (v : V) : Fm := match d with
  | some d => fun t => if Nat.beq t d then v else fr t
  | none => fr

def FrOk (β : Bt) (fr : Fm) (nt : Nat) (a : Act) : Prop := (∀ t, R β (fr t) (a.tmps.getD t undef)) ∧ a.tmps.size = nt ∧ a.defers = []
theorem FrOk.opd {β : Bt} {fr : Fm} {nt : Nat} {a : Act} (h : FrOk β fr nt a) (x : Operand) : R β (opd fr x) (a.eval x) := by
  cases x with
  | tmp t => exact h.1 t
  | const v => exact R_ofC β v
  | global g => trivial
  | func f => exact ⟨#[], #[], rfl, trivial, trivial⟩
theorem FrOk.mono {β β' : Bt} {fr : Fm} {nt : Nat} {a : Act} (h : FrOk β fr nt a) (hb : β.all β') : FrOk β' fr nt a := ⟨fun t => (h.1 t).mono hb, h.2⟩
theorem FrOk.put {β : Bt} {fr : Fm} {nt : Nat} {a : Act} (h : FrOk β fr nt a) {d : Option Tmp} {v : V} {x : Value} (hd : ∀ t, d = some t → t < nt) (hv : R β v x) : FrOk β (upd fr d v) nt (a.put d x) := by
  cases d with
  | none => exact h
  | some d =>
    refine ⟨fun t => ?_, by simp [Act.put, h.2.1], by simp [Act.put, h.2.2]⟩
    have hd' : d < a.tmps.size := by rw [h.2.1]; exact hd d rfl
    by_cases e : t = d
    · subst e; simpa [upd, Act.put, hd'] using hv
    · have : (a.put (some d) x).tmps.getD t undef = a.tmps.getD t undef := by simp [Act.put, Array.getElem?_setIfInBounds_ne (Ne.symm e)]
      rw [this]; simp only [upd]; rw [if_neg (by simpa using e)]; exact h.1 t

/-- A piece of code: slots, first free name, objects before; how it ends; slots, first free name, objects behind it. Names below 'e' keep their places. -/
def TC (P : Program) (ρ : Env) (e nt : Nat) (c : Code) (fr : Fm) (n : Nat) (σ : Sto) (o : Out) (fr' : Fm) (n' : Nat) (σ' : Sto) : Prop :=
  ∀ (β : Bt) (a : Act) (w : World) (Q : Exit → Act → World → Prop), Sim ρ n β σ w → FrOk β fr nt a →
    (∀ β' a' w', Sim ρ n' β' σ' w' → FrOk β' fr' nt a' → Step e β σ w β' σ' w' → Q o.ex a' w') → c.wp P Q a w
/-- so many rounds of a loop, and out of it. -/
def TR (P : Program) (ρ : Env) (e nt : Nat) (c : Code) (k : Nat) (fr : Fm) (n : Nat) (σ : Sto) (o : Out) (fr' : Fm) (n' : Nat) (σ' : Sto) : Prop :=
  ∀ (β : Bt) (a : Act) (w : World) (Q : Exit → Act → World → Prop), Sim ρ n β σ w → FrOk β fr nt a →
    (∀ β' a' w', Sim ρ n' β' σ' w' → FrOk β' fr' nt a' → Step e β σ w β' σ' w' → Q o.ex a' w') → Code.rounds P c Q k a w

section
variable {P : Program} {ρ : Env} {e nt : Nat} {fr fr1 fr' : Fm} {n n1 n' : Nat} {σ σ1 σ' : Sto} {o : Out} {c c' : Code}

theorem TC.skip : TC P ρ e nt .skip fr n σ .normal fr n σ := fun β a w Q hS hF hQ => wp_skip (hQ β a w hS hF Step.refl)
theorem TC.ret : TC P ρ e nt .ret fr n σ .ret fr n σ := fun β a w Q hS hF hQ => wp_ret (hQ β a w hS hF Step.refl)
theorem TC.exit {id : Nat} : TC P ρ e nt (.exit id) fr n σ (.exit id) fr n σ := fun β a w Q hS hF hQ => wp_exit (hQ β a w hS hF Step.refl)
theorem TC.seq (h1 : TC P ρ e nt c fr n σ .normal fr1 n1 σ1) (h2 : TC P ρ e nt c' fr1 n1 σ1 o fr' n' σ') : TC P ρ e nt (.seq c c') fr n σ o fr' n' σ' :=
  fun β a w Q hS hF hQ => wp_seq (h1 β a w _ hS hF fun β1 a1 w1 hS1 hF1 st1 => h2 β1 a1 w1 Q hS1 hF1 fun β2 a2 w2 hS2 hF2 st2 => hQ β2 a2 w2 hS2 hF2 (st1.trans st2))
theorem TC.seqOut (h1 : TC P ρ e nt c fr n σ o fr' n' σ') (ho : o ≠ .normal) : TC P ρ e nt (.seq c c') fr n σ o fr' n' σ' :=
  fun β a w Q hS hF hQ => wp_seq (h1 β a w _ hS hF fun β1 a1 w1 hS1 hF1 st1 => by
    have := hQ β1 a1 w1 hS1 hF1 st1
    cases o <;> first | exact (ho rfl).elim | exact this)
theorem TC.cond {x : Operand} {b : B} {t : Bool} (hx : opd fr x = .bool b) (hb : b.den ρ = t) (h : TC P ρ e nt (if t then c else c') fr n σ o fr' n' σ') : TC P ρ e nt (.cond x c c') fr n σ o fr' n' σ' :=
  fun β a w Q hS hF hQ => by
    have := hF.opd x
    rw [hx] at this
    have h1 := R_bool this
    rw [hS.env, hb] at h1
    exact wp_cond (t := t) h1 (h β a w Q hS hF hQ)
theorem TC.block {id : Nat} (h : TC P ρ e nt c fr n σ o fr' n' σ') (ho : o = .normal ∨ o = .exit id) : TC P ρ e nt (.block id c) fr n σ .normal fr' n' σ' :=
  fun β a w Q hS hF hQ => wp_block (h β a w _ hS hF fun β1 a1 w1 hS1 hF1 st1 => by
    have := hQ β1 a1 w1 hS1 hF1 st1
    rcases ho with rfl | rfl
    · exact this
    · simpa [Out.ex, Exit.inBlock] using this)
theorem TC.blockOut {id : Nat} (h : TC P ρ e nt c fr n σ o fr' n' σ') (ho : o ≠ .normal) (hi : o ≠ .exit id) : TC P ρ e nt (.block id c) fr n σ o fr' n' σ' :=
  fun β a w Q hS hF hQ => wp_block (h β a w _ hS hF fun β1 a1 w1 hS1 hF1 st1 => by
    have := hQ β1 a1 w1 hS1 hF1 st1
    cases o with
    | normal => exact (ho rfl).elim
    | ret => exact this
    | exit j => have hj : j ≠ id := fun e => hi (by rw [e]); simpa [Out.ex, Exit.inBlock, hj] using this)
theorem TC.loop {k : Nat} (h : TR P ρ e nt c k fr n σ o fr' n' σ') : TC P ρ e nt (.loop c) fr n σ o fr' n' σ' := fun β a w Q hS hF hQ => wp_loop_rounds k (h β a w Q hS hF hQ)
theorem TR.more {k : Nat} (h1 : TC P ρ e nt c fr n σ .normal fr1 n1 σ1) (h2 : TR P ρ e nt c k fr1 n1 σ1 o fr' n' σ') : TR P ρ e nt c (k + 1) fr n σ o fr' n' σ' :=
  fun β a w Q hS hF hQ => h1 β a w _ hS hF fun β1 a1 w1 hS1 hF1 st1 => h2 β1 a1 w1 Q hS1 hF1 fun β2 a2 w2 hS2 hF2 st2 => hQ β2 a2 w2 hS2 hF2 (st1.trans st2)
theorem TR.out {k : Nat} (h : TC P ρ e nt c fr n σ o fr' n' σ') (ho : o ≠ .normal) : TR P ρ e nt c (k + 1) fr n σ o fr' n' σ' :=
  fun β a w Q hS hF hQ => h β a w _ hS hF fun β1 a1 w1 hS1 hF1 st1 => by
    have := hQ β1 a1 w1 hS1 hF1 st1
    cases o <;> first | exact (ho rfl).elim | exact this

/-! ### a region in the order of its text -/
/-- is an operation wanted? -/
def wants (ρ : Env) (fr : Fm) (ops : Array Oper) (o : Oper) : Option Bool :=
  match o.guard with
  | none => some true
  | some (j, want) => match (ops[j]?).bind (·.dst) with
    | some t => match fr t with
      | .bool b => some (b.den ρ == want)
      | .tup [] => some false
      | _ => none
    | none => none
/-- operations, one behind the other. -/
def TL (P : Program) (ρ : Env) (e nt : Nat) (ops : Array Oper) (l : List Oper) (fr : Fm) (n : Nat) (σ : Sto) (fr' : Fm) (n' : Nat) (σ' : Sto) : Prop :=
  ∀ (β : Bt) (a : Act) (w : World) (Q : Exit → Act → World → Prop), Sim ρ n β σ w → FrOk β fr nt a →
    (∀ β' a' w', Sim ρ n' β' σ' w' → FrOk β' fr' nt a' → Step e β σ w β' σ' w' → Q .normal a' w') → wpList P ops Q l a w
theorem wanted_of {β : Bt} {ops : Array Oper} {op : Oper} {b : Bool} {a : Act} (hρ : β.g.env = ρ) (h : wants ρ fr ops op = some b) (hF : FrOk β fr nt a) : Region.wanted op (yielded ops a.tmps) = b := by
  unfold wants at h
  unfold Region.wanted
  cases hg : op.guard with
  | none => rw [hg] at h; cases h; rfl
  | some jw =>
    obtain ⟨j, want⟩ := jw
    rw [hg] at h
    simp only at h ⊢
    cases hd : (ops[j]?).bind (·.dst) with
    | none => rw [hd] at h; cases h
    | some t =>
      rw [hd] at h
      simp only at h
      split at h
      · rename_i b' hv
        have h1 := hF.1 t
        rw [hv] at h1
        have h2 := R_bool h1
        rw [hρ] at h2
        have h3 : a.tmps[t]? = some (.bool (b'.den ρ)) := by
          have : (a.tmps.getD t undef) = (a.tmps[t]?).getD undef := by simp
          rw [this] at h2
          cases hq : a.tmps[t]? with
          | none => rw [hq] at h2; cases h2
          | some z => rw [hq] at h2; simp at h2; rw [h2]
        simp only [yielded, hd, Option.bind_some, h3]
        have : (b'.den ρ == want) = b := by simpa using h
        rw [← this]; rfl
      · rename_i hv
        have h1 := hF.1 t
        rw [hv] at h1
        obtain ⟨xs, h2, h4⟩ := (show R β (.tup []) _ from h1)
        obtain rfl : xs = #[] := by
          cases xs with | mk l => cases l with
          | nil => rfl
          | cons => exact h4.elim
        have h3 : a.tmps[t]? = none ∨ a.tmps[t]? = some (.tuple #[]) := by
          have : (a.tmps.getD t undef) = (a.tmps[t]?).getD undef := by simp
          rw [this] at h2
          cases hq : a.tmps[t]? with
          | none => exact .inl rfl
          | some z => rw [hq] at h2; simp at h2; rw [h2]; exact .inr rfl
        have hb : b = false := by simpa using h.symm
        subst hb
        simp only [yielded, hd, Option.bind_some]
        rcases h3 with h3 | h3 <;> rw [h3] <;> rfl
      · cases h
theorem TL.nil {ops : Array Oper} : TL P ρ e nt ops [] fr n σ fr n σ := fun β a w Q hS hF hQ => wpList_nil (hQ β a w hS hF Step.refl)
theorem TL.cons {ops : Array Oper} {l : List Oper} {op : Oper} {v : V} (he : e ≤ n) (hw : wants ρ fr ops op = some true) (hd : ∀ t, op.dst = some t → t < nt) (h1 : TOp P ρ op fr n σ v n1 σ1) (h2 : TL P ρ e nt ops l (upd fr op.dst v) n1 σ1 fr' n' σ') : TL P ρ e nt ops (op :: l) fr n σ fr' n' σ' := by
  intro β a w Q hS hF hQ
  refine wpList_step fun K hK => ?_
  rw [if_pos (wanted_of hS.env hw hF)]
  exact h1 β a w K Q hS (fun x _ => hF.opd x) fun x β1 w1 hR hS1 st1 => hK _ _ (h2 β1 _ w1 Q hS1 ((hF.mono (hS.all st1)).put hd hR) fun β2 a2 w2 hS2 hF2 st2 => hQ β2 a2 w2 hS2 hF2 ((st1.weaken he).trans st2))
theorem TL.idle {ops : Array Oper} {l : List Oper} {op : Oper} (hw : wants ρ fr ops op = some false) (hd : ∀ t, op.dst = some t → t < nt) (h2 : TL P ρ e nt ops l (upd fr op.dst (.tup [])) n σ fr' n' σ') : TL P ρ e nt ops (op :: l) fr n σ fr' n' σ' := by
  intro β a w Q hS hF hQ
  refine wpList_step fun K hK => ?_
  rw [if_neg (by rw [wanted_of hS.env hw hF]; simp)]
  exact hK _ _ (h2 β _ w Q hS (hF.put hd ⟨#[], rfl, trivial⟩) hQ)
theorem TC.region {id : Nat} {l : List Oper} (h : TL P ρ e nt l.toArray l fr n σ fr' n' σ') : TC P ρ e nt (.region id l.toArray false) fr n σ .normal fr' n' σ' :=
  fun β a w Q hS hF hQ => wp_region_lit (h β a w Q hS hF hQ)
end

/-! ### functions -/
structure Spec (P : Program) (ρ : Env) (f : FuncId) (args : List V) (n : Nat) (σ : Sto) (r : V) (n' : Nat) (σ' : Sto) : Prop where
  there : ∃ fn, P.funcs[f]? = some fn ∧ (fn.name == "runtime.NumGoroutine") = false ∧ fn.body.isNone = false
  calls : ∀ (β : Bt) (xs : List Value) (w : World), Sim ρ n β σ w → F2 (R β) args xs → Calls P f xs.toArray w (fun e w' => ∃ x β', e = .returned x ∧ R β' r x ∧ Sim ρ n' β' σ' w' ∧ Step n β σ w β' σ' w')
def fr0 (args : List V) : Fm := fun t => args.getD t .und
def resCell (P : Program) (fr : Fm) (σ : Sto) : ResultVar → Option V
  | .tmp t => if (fr t).var then some (fr t) else none
  | .cell a t => match fr a with
    | .ptr id i z c => match σ id, sz P t with
      | some ob, some k => match ob.row.seg i z c k with
        | some (cs, []) => if Nat.beq cs.length k then ofSeg P t cs else none
        | _ => none
      | _, _ => none
    | _ => none
def resV (P : Program) (rs : List ResultVar) (fr : Fm) (σ : Sto) : Option V :=
  match rs.mapM (resCell P fr σ) with
  | some [v] => some v
  | some vs => some (.tup vs)
  | none => none
/-- what a result variable gives, in the model. -/
def resG (tmps : Array Value) : ResultVar → Sem Value
  | .tmp t => pure (tmps.getD t undef)
  | .cell p t => do loadVar t (← asAddr (tmps.getD p undef))
theorem results_eq (fn : Func) (tmps : Array Value) : results fn tmps = (do let vs ← fn.results.mapM (resG tmps); pure (if h : vs.size = 1 then vs[0] else .tuple vs)) := rfl
theorem run_resCell {P : Program} {ρ : Env} {β : Bt} {fr : Fm} {nt n : Nat} {σ : Sto} {a : Act} {w : World} (hS : Sim ρ n β σ w) (hF : FrOk β fr nt a) {r : ResultVar} {v : V} (h : resCell P fr σ r = some v) :
    ∃ x, (resG a.tmps r).run P w = .ok x w ∧ R2 β v x := by
  cases r with
  | tmp t =>
    simp only [resCell] at h
    split at h
    · rename_i hv; cases h; exact ⟨_, rfl, (hF.1 t).var hv⟩
    · cases h
  | cell p t =>
    simp only [resCell] at h
    split at h
    · rename_i id i z c hp
      split at h
      · rename_i ob k hob hk
        split at h
        · rename_i cs hseg
          split at h
          · rename_i hcl
            have h1 := hF.1 p
            rw [hp] at h1
            obtain ⟨q, hq, e⟩ := (show R0 β (.ptr id i z c) _ from h1)
            obtain ⟨q', hq', hok⟩ := hS.ob id ob hob
            obtain rfl : some q = q' := Option.some.inj (hq.symm.trans hq')
            obtain ⟨hlt, cur, xs, rest, fz, hg, hsz, hcur, hRH, _⟩ := hok
            obtain ⟨hF', hle⟩ := hRH.seg hseg (fun b hb => by cases hb)
            rw [← List.drop_take_pre hcur _ k hle] at hF'
            obtain ⟨y, hy, hR⟩ := run_seg (P := P) hg hk (Nat.eq_of_beq_eq_true hcl) hF' h
            exact ⟨y, by simp only [resG, e, asAddr, Sem.run_bind, Sem.run_pure, Result.andThen_ok, hy], hR⟩
          · cases h
        · cases h
      · cases h
    · cases h
theorem run_mapM {P : Program} {w : World} {β : Bt} (g : ResultVar → Sem Value) (k : ResultVar → Option V) (hg : ∀ r v, k r = some v → ∃ x, (g r).run P w = .ok x w ∧ R2 β v x) :
    ∀ (rs : List ResultVar) (vs : List V), rs.mapM k = some vs → ∃ xs : List Value, (rs.mapM g).run P w = .ok xs w ∧ F2 (R2 β) vs xs
  | [], vs, h => by simp at h; subst h; exact ⟨[], rfl, trivial⟩
  | r :: rs, vs, h => by
    rw [List.mapM_cons] at h
    cases hk : k r with
    | none => rw [hk] at h; cases h
    | some v =>
      rw [hk] at h
      cases hks : rs.mapM k with
      | none => rw [hks] at h; cases h
      | some vs' =>
        rw [hks] at h
        have h' : v :: vs' = vs := by simpa using h
        subst h'
        obtain ⟨x, hx, hR⟩ := hg r v hk
        obtain ⟨xs, hxs, hF⟩ := run_mapM g k hg rs vs' hks
        exact ⟨x :: xs, by simp [List.mapM_cons, hx, hxs], hR, hF⟩
theorem run_results {P : Program} {ρ : Env} {β : Bt} {fr : Fm} {nt n : Nat} {σ : Sto} {a : Act} {w : World} (hS : Sim ρ n β σ w) (hF : FrOk β fr nt a) {fn : Func} {v : V} (h : resV P fn.results.toList fr σ = some v) :
    ∃ x, (results fn a.tmps).run P w = .ok x w ∧ R β v x := by
  unfold resV at h
  cases hm : fn.results.toList.mapM (resCell P fr σ) with
  | none => rw [hm] at h; cases h
  | some vs =>
    obtain ⟨xs, hxs, hFs⟩ := run_mapM (P := P) (w := w) (β := β) (resG a.tmps) (resCell P fr σ) (fun r v hr => run_resCell hS hF hr) fn.results.toList vs hm
    rw [hm] at h
    have hrun : (fn.results.mapM (resG a.tmps)).run P w = .ok xs.toArray w := by
      rw [Array.mapM_eq_mapM_toList, Sem.run_map, hxs]; rfl
    have hl := hFs.length
    rw [results_eq, Sem.run_bind, hrun]
    simp only [Result.andThen_ok, Sem.run_pure]
    match vs, xs, hFs, h with
    | [v1], [x1], hFs, h => cases h; exact ⟨x1, by simp, hFs.1.up⟩
    | [], [], _, h => cases h; exact ⟨.tuple #[], by simp, #[], rfl, trivial⟩
    | v1 :: v2 :: vs, x1 :: x2 :: xs, hFs, h => cases h; exact ⟨.tuple (x1 :: x2 :: xs).toArray, by simp, _, rfl, hFs⟩
theorem Spec.enter {P : Program} {ρ : Env} {f : FuncId} {fn : Func} {c : Code} {args : List V} {n n' : Nat} {σ σ' : Sto} {fr' : Fm} {o : Out} {r : V} (hf : P.funcs[f]? = some fn) (hn : (fn.name == "runtime.NumGoroutine") = false) (hb : fn.body = some c) (hl : args.length ≤ fn.ntmps)
    (h : TC P ρ n fn.ntmps c (fr0 args) n σ o fr' n' σ') (ho : o = .normal ∨ o = .ret) (hr : resV P fn.results.toList fr' σ' = some r) : Spec P ρ f args n σ r n' σ' := by
  refine ⟨⟨fn, hf, hn, by rw [hb]; rfl⟩, fun β xs w hS hA => calls_of_wp hf hb ?_⟩
  have hlen := hA.length
  refine h β _ w _ hS ⟨fun t => ?_, ?_, rfl⟩ fun β1 a1 w1 hS1 hF1 st1 => ?_
  · unfold fr0
    by_cases ht : t < args.length
    · have e1 : args.getD t .und = args[t] := by simp [List.getD, ht]
      have ht' : t < xs.length := by omega
      obtain ⟨x, hx, hR⟩ := hA.get t args[t] (by simp [ht])
      have e2 : (xs.toArray ++ Array.replicate (fn.ntmps - xs.toArray.size) undef).getD t undef = x := by
        have : xs[t]? = some x := hx
        simp [Array.getElem?_append, ht'] at this ⊢
        exact this
      rw [e1, e2]; exact hR
    · have e1 : args.getD t .und = .und := by simp [List.getD, List.getElem?_eq_none (Nat.le_of_not_lt ht)]
      rw [e1]; trivial
  · simp; omega
  · obtain ⟨x, hx, hR⟩ := run_results (P := P) hS1 hF1 hr
    rcases ho with rfl | rfl
    · exact ⟨hF1.2.2, x, hx, x, β1, rfl, hR, hS1, st1⟩
    · exact ⟨hF1.2.2, x, hx, x, β1, rfl, hR, hS1, st1⟩

theorem TOp.callSpec {P : Program} {ρ : Env} {o : Oper} {fr : Fm} {n n' : Nat} {σ σ' : Sto} {x : Operand} {as : Array Operand} {ts : Array TypeId} {g : FuncId} {first cap : List V} {r : V} (h : o.op = .call { callee := .value x, args := as, argTypes := ts })
    (hx : opd fr x = .fn (.func g) first cap) (hs : Spec P ρ g (first ++ as.toList.map (opd fr) ++ cap) n σ r n' σ') : TOp P ρ o fr n σ r n' σ' := by
  intro β a w K Q hS ho hk
  have h1 := ho x (by rw [h]; simp [Op.operands, Call.operands])
  rw [hx] at h1
  obtain ⟨ys, zs, e, hF1, hF3⟩ := (show R1 β (.fn (.func g) first cap) (a.eval x) from h1)
  have hF2 : F2 (R β) (as.toList.map (opd fr)) (as.toList.map a.eval) := F2.map _ _ _ fun y hy => ho y (by rw [h]; simp only [Op.operands, Call.operands]; exact Array.mem_append.2 (.inr (by simpa using hy)))
  have hA := ((hF1.mono fun _ _ => R0.toR).app hF2).app (hF3.mono fun _ _ => R0.toR)
  have hcalls := hs.calls β _ w hS hA
  obtain ⟨fn, hfn, hname, hbody⟩ := hs.there
  unfold Oper.wp
  have hrun : (execOp a.eval o).run P w = .ok (.enter g (ys.toList ++ as.toList.map a.eval ++ zs.toList).toArray) w := by
    unfold execOp
    rw [h]
    simp only [resolve, e, Deferred.ofValue, invoke, callFunc, Sem.run_bind, Sem.run_pure, Result.andThen_ok, run_program, hfn, hname, hbody, Bool.false_eq_true, if_false]
    congr 2
    apply Array.ext'
    simp
  rw [hrun]
  refine hcalls.mono ?_
  rintro e' w' ⟨y, β', rfl, hR, hS', st⟩
  exact hk y β' w' hR hS' st

/-! ### no objects; more objects -/
def no : Sto := fun _ => none
theorem no_le (σ : Sto) : no.le σ := fun _ _ h => by cases h
/-- what is told over few objects, over more: those others stay. -/
def Sto.over (n : Nat) (τ σ σ' : Sto) : Sto := fun id => if Nat.ble n id then σ' id else if (σ id).isSome then σ' id else τ id
end Go.Proofs.Ytnklnboglijcbaa.E
