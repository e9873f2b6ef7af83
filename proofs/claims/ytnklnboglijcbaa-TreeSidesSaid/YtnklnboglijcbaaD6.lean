/- The same, reckoned: functions that carry out code on values and objects, and that they are right. Plain Lean over the kit's model; no program. -/
import Derived.Test.YtnklnboglijcbaaD5
namespace Go.Proofs.Ytnklnboglijcbaa.D
open Go Go.RowKit
set_option linter.unusedVariables false

/-- what calls give: callee, arguments, first free name, objects. -/
abbrev Calls' := FuncId → List V → Nat → Sto → Option (V × Nat × Sto)

def CallsOk (P : Program) (cl : Calls') : Prop := ∀ g args n σ r n' σ', cl g args n σ = some (r, n', σ') → Spec P g args n σ r n' σ'

/-- a contract over few objects holds over more. -/
theorem Spec.frame {P : Program} {g : FuncId} {args : List V} {n n' : Nat} {σ σs σs' : Sto} {r : V} (hs : σs.le σ) (h : Spec P g args n σs r n' σs') : Spec P g args n σ r n' (Sto.over n σ σs σs') :=
  ⟨h.there, fun β xs w hS hA => (h.calls β xs w (hS.drop hs) hA).mono fun e w' ⟨x, β', he, hR, hS', st⟩ =>
    let ⟨hS'', st'⟩ := D.frame hS hs st hS'
    ⟨x, β', he, hR, hS'', st'⟩⟩
theorem Spec.congr {P : Program} {g : FuncId} {args : List V} {n n' : Nat} {σ σ' σ'' : Sto} {r : V} (h : Spec P g args n σ r n' σ') (he : ∀ β w, Sim n β σ w → σ' = σ'') : Spec P g args n σ r n' σ'' :=
  ⟨h.there, fun β xs w hS hA => by have := h.calls β xs w hS hA; rwa [he β w hS] at this⟩
/-- a contract of a function that makes nothing, over any objects. -/
theorem Spec.any {P : Program} {g : FuncId} {args : List V} {n : Nat} {r : V} (h : Spec P g args n no r n no) (σ : Sto) : Spec P g args n σ r n σ :=
  (Spec.frame (no_le σ) h).congr fun β w hS => over_no hS

theorem TOp.calls {P : Program} {cl : Calls'} (hcl : CallsOk P cl) {o : Oper} {fr : Fr} {n n' : Nat} {σ σ' : Sto} {x : Operand} {as : Array Operand} {ts : Array TypeId} {g : FuncId} {first cap : List V} {r : V} (h : o.op = .call { callee := .value x, args := as, argTypes := ts })
    (hx : opd fr x = .fn (.func g) first cap) (hc : cl g (first ++ as.toList.map (opd fr) ++ cap) n σ = some (r, n', σ')) : TOp P o fr n σ r n' σ' := by
  have hs := hcl _ _ _ _ _ _ _ hc
  intro β a w K Q hS ho hk
  have h1 := ho x (by rw [h]; simp [Op.operands, Call.operands])
  rw [hx] at h1
  obtain ⟨ys, zs, e, hF1, hF3⟩ := (show R1 β (.fn (.func g) first cap) (a.eval x) from h1)
  have hF2 : F2 (R β) (as.toList.map (opd fr)) (as.toList.map a.eval) := F2.map _ _ _ fun y hy => ho y (by rw [h]; simp only [Op.operands, Call.operands]; exact Array.mem_append.2 (.inr (by simpa using hy)))
  have hA := ((hF1.mono fun _ _ => R0.toR).app hF2).app (hF3.mono fun _ _ => R0.toR)
  have hcalls := hs.calls β _ w hS hA
  obtain ⟨fn, hfn, hname, hbody⟩ := hs.there
  unfold Oper.wp
  have hrun : (execOp a.eval o).run P w = .ok (.enter g (ys.toList ++ as.toList.map a.eval ++ zs.toList).toArray) w := by
    unfold execOp
    rw [h]
    simp only [resolve, e, Deferred.ofValue, invoke, callFunc, Sem.run_bind, Sem.run_pure, Result.andThen_ok, run_program, hfn, hname, hbody, Bool.false_eq_true, if_false]
    congr 2
    apply Array.ext'
    simp
  rw [hrun]
  refine hcalls.mono ?_
  rintro e' w' ⟨y, β', rfl, hR, hS', st⟩
  exact hk y β' w' hR hS' st

def notSel : Op → Bool
  | .select .. => false
  | _ => true

/-- the model's own reckoning, where no operand bears an address. -/
def dsc (P : Program) (o : Oper) (fr : Fr) : Option V :=
  if notSel o.op && o.op.operands.all fun x => ((opd fr x).val).isSome then
    match askP P (execOp (fun x => ((opd fr x).val).getD undef) o) with
    | some (.value y) => some (ofC y)
    | _ => none
  else none

theorem dsc_ok {P : Program} {o : Oper} {fr : Fr} {n : Nat} {σ : Sto} {v : V} (h : dsc P o fr = some v) : TOp P o fr n σ v n σ := by
  unfold dsc at h
  split at h
  · rename_i hc
    simp only [Bool.and_eq_true] at hc
    split at h
    · rename_i y hy
      cases h
      refine TOp.reckon (fun cs b e => ?_) (fun x hx => ?_) hy
      · rw [e] at hc; cases hc.1
      · have := Array.all_eq_true.1 hc.2
        obtain ⟨i, hi, rfl⟩ := Array.mem_iff_getElem.1 hx
        exact this i hi
    · cases h
  · cases h

def intOfV : V → Option Int
  | .sc (.int _ j) => some j
  | _ => none
theorem intOfV_ok {v : V} {j : Int} (h : intOfV v = some j) : ∃ k, v = .sc (.int k j) := by
  unfold intOfV at h
  split at h
  · cases h; exact ⟨_, rfl⟩
  · cases h

/-- less, in a form that reckons well. -/
def ltb : Int → Int → Bool
  | .ofNat a, .ofNat b => Nat.blt a b
  | .ofNat _, .negSucc _ => false
  | .negSucc _, .ofNat _ => true
  | .negSucc a, .negSucc b => Nat.blt b a
def eqb : Int → Int → Bool
  | .ofNat a, .ofNat b => Nat.beq a b
  | .negSucc a, .negSucc b => Nat.beq a b
  | _, _ => false
theorem ltb_eq (a b : Int) : ltb a b = decide (a < b) := by
  cases a <;> cases b <;> simp only [ltb] <;> (rw [Bool.eq_iff_iff]; simp [Nat.blt]; try omega)
theorem eqb_eq (a b : Int) : eqb a b = (a == b) := by
  cases a <;> cases b <;> simp only [eqb] <;> (rw [Bool.eq_iff_iff]; simp; try omega)
def cmpI (op : BinOp) (a b : Int) : Option Bool := match op with
  | .eql => some (eqb a b)
  | .neq => some (!eqb a b)
  | .lss => some (ltb a b)
  | .leq => some (!ltb b a)
  | .gtr => some (ltb b a)
  | .geq => some (!ltb a b)
  | _ => none
def dbin (op : BinOp) (x y : V) : Option V := match x, y with
  | .sc (.int k a), .sc (.int k' b) => if k = k' then match cmpI op a b with
      | some r => some (.sc (.bool r))
      | none => none
    else none
  | _, _ => none
theorem cmpI_ok {P : Program} {op : BinOp} {k : IntKind} {a b : Int} {r : Bool} (h : cmpI op a b = some r) (t : TypeId) (x y : Operand) (w : World) :
    ((do eqGuard op t x y (.int k a) (.int k b); binOp op t (.int k a) (.int k b) : Sem Value)).run P w = .ok (.bool r) w := by
  have hg : (eqGuard op t x y (.int k a) (.int k b)).run P w = .ok () w := by unfold eqGuard; cases op <;> rfl
  rw [Sem.run_bind, hg]
  cases op <;> simp only [cmpI] at h <;> cases h <;> simp [binOp, Op.intCmp, ltb_eq, eqb_eq]
  · rw [Bool.eq_iff_iff]; simp
  · rw [Bool.eq_iff_iff]; simp
  · rw [Bool.eq_iff_iff]; simp
theorem dbin_ok {P : Program} {o : Oper} {fr : Fr} {n : Nat} {σ : Sto} {op : BinOp} {t u : TypeId} {x y : Operand} {v : V} (h : o.op = .binOp op t x y u) (hv : dbin op (opd fr x) (opd fr y) = some v) : TOp P o fr n σ v n σ :=
  TOp.still fun β a w hS ho => by
    unfold dbin at hv
    split at hv
    · rename_i k i k' j hx hy
      split at hv
      · rename_i hk
        subst hk
        split at hv
        · rename_i r hr
          cases hv
          have g1 : a.eval x = .int k i := by have := ho x (by rw [h]; simp [Op.operands]); rw [hx] at this; exact this.1
          have g2 : a.eval y = .int k j := by have := ho y (by rw [h]; simp [Op.operands]); rw [hy] at this; exact this.1
          have hr' := cmpI_ok (P := P) (k := k) hr t x y w
          rw [Sem.run_bind] at hr'
          exact ⟨.bool r, by unfold execOp; rw [h]; simp only [g1, g2, Sem.run_bind, hr', Result.andThen_ok, Sem.run_pure], rfl, rfl⟩
        · cases hv
      · cases hv
    · cases hv

/-- One operation. -/
def dop (P : Program) (cl : Calls') (o : Oper) (fr : Fr) (n : Nat) (σ : Sto) : Option (V × Nat × Sto) :=
  match o.op with
  | .move x | .assign x => some (opd fr x, n, σ)
  | .pick c x y => match opd fr c with
    | .sc (.bool b) => some (bif b then opd fr x else opd fr y, n, σ)
    | _ => none
  | .extract x i => match opd fr x with
    | .tup vs => match vs[i]? with
      | some v => some (v, n, σ)
      | none => none
    | _ => none
  | .nilCheck x => match opd fr x with
    | .ptr id off => some (.ptr id off, n, σ)
    | _ => none
  | .alloc t => match zro P t with
    | some cs => some (.ptr n 0, n + 1, σ.put n ⟨cs, true, t⟩)
    | none => none
  | .box t x => if (opd fr x).var then some (.ptr n 0, n + 1, σ.put n ⟨(opd fr x).cells, true, t⟩) else none
  | .load t x => match opd fr x with
    | .ptr id off => match σ id with
      | some ob => match part P t ob.cells off with
        | some v => some (v, n, σ)
        | none => none
      | none => none
    | _ => none
  | .store t x y => match opd fr x with
    | .ptr id off => match σ id with
      | some ob => if ob.rw && (opd fr y).var && sz P t == some (opd fr y).cells.length && Nat.ble (off + (opd fr y).cells.length) ob.cells.length then
          some (.und, n, σ.put id ⟨splice ob.cells off (opd fr y).cells, true, ob.e⟩) else none
      | none => none
    | _ => none
  | .fieldAddr s x f => match opd fr x, P.underlying s with
    | .ptr id off, some (.struct fs) => match fs[f]? with
      | some fld => match sz P fld.type with
        | some (_ + 1) => some (.ptr id (off + fld.offset), n, σ)
        | _ => none
      | none => none
    | _, _ => none
  | .indexAddr t x i => match intOfV (opd fr i) with
    | some j => match opd fr x, P.underlying t with
      | .ptr id off, some (.array len el) => match sz P el with
        | some k => if decide (0 ≤ j) && decide (j < len) then some (.ptr id (off + j.toNat * k), n, σ) else none
        | none => none
      | .sl id off len z _ _, some (.slice el) => if sz P el == some z && decide (0 ≤ j) && decide (j < len) then some (.ptr id (off + j.toNat * z), n, σ) else none
      | _, _ => none
    | none => none
  | .field t x f => match opd fr x, P.underlying t with
    | .agg cs, some (.struct fs) => match fs[f]? with
      | some fld => match part P fld.type cs fld.offset with
        | some v => some (v, n, σ)
        | none => none
      | none => none
    | _, _ => none
  | .index t x i => match intOfV (opd fr i) with
    | some j => match opd fr x, P.underlying t with
      | .agg cs, some (.array len el) => match sz P el with
        | some k => if decide (0 ≤ j) && decide (j < len) then match part P el cs (j.toNat * k) with
            | some v => some (v, n, σ)
            | none => none
          else none
        | none => none
      | _, _ => none
    | none => none
  | .call { callee := .value x, args := as, argTypes := _ } => match opd fr x with
    | .fn (.func g) first cap => cl g (first ++ as.toList.map (opd fr) ++ cap) n σ
    | _ => none
  | .binOp op _ x y _ => match dbin op (opd fr x) (opd fr y) with
    | some v => some (v, n, σ)
    | none => match dsc P o fr with
      | some v => some (v, n, σ)
      | none => none
  | _ => match dsc P o fr with
    | some v => some (v, n, σ)
    | none => none

theorem dop_ok {P : Program} {cl : Calls'} (hcl : CallsOk P cl) {o : Oper} {fr : Fr} {n n' : Nat} {σ σ' : Sto} {v : V} (h : dop P cl o fr n σ = some (v, n', σ')) : TOp P o fr n σ v n' σ' := by
  unfold dop at h
  split at h
  case h_1 x e => cases h; exact TOp.move (.inl e)
  case h_2 x e => cases h; exact TOp.move (.inr e)
  case h_3 c x y e =>
    split at h
    · rename_i b hb; cases h; exact TOp.pick e hb
    · cases h
  case h_4 x i e =>
    split at h
    · rename_i vs hx
      split at h
      · rename_i v' hv; cases h; exact TOp.extract e hx hv
      · cases h
    · cases h
  case h_5 x e =>
    split at h
    · rename_i hx; cases h; exact TOp.nilCheck e hx
    · cases h
  case h_6 t e =>
    split at h
    · rename_i hz; cases h; exact TOp.alloc e hz
    · cases h
  case h_7 t x e =>
    split at h
    · rename_i hv; cases h; exact TOp.box e hv
    · cases h
  case h_8 t x e =>
    split at h
    · rename_i hx
      split at h
      · rename_i hob
        split at h
        · rename_i hv; cases h; exact TOp.load e hx hob hv
        · cases h
      · cases h
    · cases h
  case h_9 t x y e =>
    split at h
    · rename_i hx
      split at h
      · rename_i hob
        split at h
        · rename_i hc
          simp only [Bool.and_eq_true, beq_iff_eq] at hc
          cases h
          exact TOp.store e hx hob hc.1.1.1 hc.1.1.2 hc.1.2 (Nat.le_of_ble_eq_true hc.2)
        · cases h
      · cases h
    · cases h
  case h_10 s x f e =>
    split at h
    · rename_i hx hu
      split at h
      · rename_i hf
        split at h
        · rename_i hk; cases h; exact TOp.fieldAddr e hx hu hf hk (by omega)
        · cases h
      · cases h
    · cases h
  case h_11 t x i e =>
    split at h
    · rename_i j hj
      obtain ⟨kd, hi⟩ := intOfV_ok hj
      split at h
      · rename_i hx hu
        split at h
        · rename_i hk
          split at h
          · rename_i hc
            simp only [Bool.and_eq_true, decide_eq_true_eq] at hc
            cases h; exact TOp.indexArr e hx hi hu hk hc.1 hc.2
          · cases h
        · cases h
      · rename_i hx hu
        split at h
        · rename_i hc
          simp only [Bool.and_eq_true, decide_eq_true_eq, beq_iff_eq] at hc
          cases h; exact TOp.indexSl e hx hi hu hc.1.1 hc.1.2 hc.2
        · cases h
      · cases h
    · cases h
  case h_12 t x f e =>
    split at h
    · rename_i hx hu
      split at h
      · rename_i hf
        split at h
        · rename_i hv; cases h; exact TOp.field e hx hu hf hv
        · cases h
      · cases h
    · cases h
  case h_13 t x i e =>
    split at h
    · rename_i j hj
      obtain ⟨kd, hi⟩ := intOfV_ok hj
      split at h
      · rename_i hx hu
        split at h
        · rename_i hk
          split at h
          · rename_i hc
            simp only [Bool.and_eq_true, decide_eq_true_eq] at hc
            split at h
            · rename_i hv; cases h; exact TOp.indexV e hx hi hu hk hc.1 hc.2 hv
            · cases h
          · cases h
        · cases h
      · cases h
    · cases h
  case h_14 x as ts e =>
    split at h
    · rename_i g first cap hx; exact TOp.calls hcl e hx h
    · cases h
  case h_15 op t x y u e =>
    split at h
    · rename_i hv; cases h; exact dbin_ok e hv
    · split at h
      · rename_i hv; cases h; exact dsc_ok hv
      · cases h
  case h_16 =>
    split at h
    · rename_i hv; cases h; exact dsc_ok hv
    · cases h

def dstOk (nt : Nat) : Option Tmp → Bool
  | none => true
  | some t => Nat.blt t nt

def dops (P : Program) (cl : Calls') (nt : Nat) (ops : Array Oper) : List Oper → Fr → Nat → Sto → Option (Fr × Nat × Sto)
  | [], fr, n, σ => some (fr, n, σ)
  | o :: l, fr, n, σ =>
    if dstOk nt o.dst then
      match wants fr ops o with
      | some true => match dop P cl o fr n σ with
        | some (v, n', σ') => dops P cl nt ops l (upd fr o.dst v) n' σ'
        | none => none
      | some false => dops P cl nt ops l (upd fr o.dst .und) n σ
      | none => none
    else none

theorem dstOk_ok {nt : Nat} {d : Option Tmp} (h : dstOk nt d = true) : ∀ t, d = some t → t < nt := by
  rintro t rfl
  exact Nat.le_of_ble_eq_true h

theorem dops_ok {P : Program} {cl : Calls'} (hcl : CallsOk P cl) {nt : Nat} {ops : Array Oper} : ∀ {l : List Oper} {fr : Fr} {n : Nat} {σ : Sto} {fr' : Fr} {n' : Nat} {σ' : Sto}, dops P cl nt ops l fr n σ = some (fr', n', σ') → TL P nt ops l fr n σ fr' n' σ'
  | [], fr, n, σ, fr', n', σ', h => by cases h; exact TL.nil
  | o :: l, fr, n, σ, fr', n', σ', h => by
    unfold dops at h
    split at h
    · rename_i hd
      split at h
      · rename_i hw
        split at h
        · rename_i v n1 σ1 ho
          exact TL.cons hw (dstOk_ok hd) (dop_ok hcl ho) (dops_ok hcl h)
        · cases h
      · rename_i hw; exact TL.idle hw (dstOk_ok hd) (dops_ok hcl h)
      · cases h
    · cases h

/-- Code. -/
def dcode (P : Program) (cl : Calls') (nt : Nat) : Nat → Code → Fr → Nat → Sto → Option (Out × Fr × Nat × Sto)
  | 0, _, _, _, _ => none
  | k + 1, c, fr, n, σ =>
    match c with
    | .skip => some (.normal, fr, n, σ)
    | .ret => some (.ret, fr, n, σ)
    | .exit id => some (.exit id, fr, n, σ)
    | .region _ ops false => match dops P cl nt ops ops.toList fr n σ with
      | some (fr', n', σ') => some (.normal, fr', n', σ')
      | none => none
    | .seq a b => match dcode P cl nt k a fr n σ with
      | some (.normal, fr1, n1, σ1) => dcode P cl nt k b fr1 n1 σ1
      | r => r
    | .cond x a b => match opd fr x with
      | .sc (.bool t) => if t then dcode P cl nt k a fr n σ else dcode P cl nt k b fr n σ
      | _ => none
    | .block id a => match dcode P cl nt k a fr n σ with
      | some (.exit j, fr1, n1, σ1) => if j == id then some (.normal, fr1, n1, σ1) else some (.exit j, fr1, n1, σ1)
      | r => r
    | .loop a => match dcode P cl nt k a fr n σ with
      | some (.normal, fr1, n1, σ1) => dcode P cl nt k (.loop a) fr1 n1 σ1
      | r => r
    | _ => none

theorem dcode_ok {P : Program} {cl : Calls'} (hcl : CallsOk P cl) {nt : Nat} : ∀ (k : Nat) (c : Code) (fr : Fr) (n : Nat) (σ : Sto) (o : Out) (fr' : Fr) (n' : Nat) (σ' : Sto), dcode P cl nt k c fr n σ = some (o, fr', n', σ') →
    TC P nt c fr n σ o fr' n' σ' ∧ (∀ a, c = .loop a → TR P nt a k fr n σ o fr' n' σ')
  | 0, c, fr, n, σ, o, fr', n', σ', h => by cases h
  | k + 1, c, fr, n, σ, o, fr', n', σ', h => by
    have ih := dcode_ok hcl (nt := nt) k
    unfold dcode at h
    split at h
    · cases h; exact ⟨TC.skip, fun _ e => by cases e⟩
    · cases h; exact ⟨TC.ret, fun _ e => by cases e⟩
    · cases h; exact ⟨TC.exit, fun _ e => by cases e⟩
    · rename_i id ops
      split at h
      · rename_i hd; cases h
        refine ⟨?_, fun _ e => by cases e⟩
        have := TC.region (P := P) (nt := nt) (id := id) (l := ops.toList) (by simpa using dops_ok hcl hd)
        simpa using this
      · cases h
    · rename_i a b
      refine ⟨?_, fun _ e => by cases e⟩
      split at h
      · rename_i h1; exact TC.seq (ih _ _ _ _ _ _ _ _ h1).1 (ih _ _ _ _ _ _ _ _ h).1
      · rename_i h2
        exact TC.seqOut (ih _ _ _ _ _ _ _ _ h).1 (fun e => by subst e; exact h2 _ _ _ h)
    · rename_i x a b
      refine ⟨?_, fun _ e => by cases e⟩
      split at h
      · rename_i t ht
        refine TC.cond ht ?_
        split at h <;> (rename_i hb; first | (rw [if_pos hb]; exact (ih _ _ _ _ _ _ _ _ h).1) | (rw [if_neg hb]; exact (ih _ _ _ _ _ _ _ _ h).1))
      · cases h
    · rename_i id a
      refine ⟨?_, fun _ e => by cases e⟩
      split at h
      · rename_i j fr1 n1 σ1 h1
        split at h
        · rename_i hj
          cases h
          have : j = id := by simpa using hj
          subst this
          exact TC.block (ih _ _ _ _ _ _ _ _ h1).1 (.inr rfl)
        · rename_i hj
          cases h
          exact TC.blockOut (ih _ _ _ _ _ _ _ _ h1).1 (by simp) (fun e => hj (by cases e; simp))
      · rename_i h2
        cases o with
        | normal => exact TC.block (ih _ _ _ _ _ _ _ _ h).1 (.inl rfl)
        | exit j => exact (h2 _ _ _ _ h).elim
        | ret => exact TC.blockOut (ih _ _ _ _ _ _ _ _ h).1 (by simp) (by simp)
    · rename_i a
      have key : TR P nt a (k + 1) fr n σ o fr' n' σ' := by
        split at h
        · rename_i h1
          exact TR.more (ih _ _ _ _ _ _ _ _ h1).1 ((ih _ _ _ _ _ _ _ _ h).2 a rfl)
        · rename_i h2
          exact TR.out (ih _ _ _ _ _ _ _ _ h).1 (fun e => by subst e; exact h2 _ _ _ h)
      exact ⟨TC.loop key, fun _ e => by cases e; exact key⟩
    · cases h

/-- A function. -/
def dfun (P : Program) (cl : Calls') (k : Nat) (fn : Func) (args : List V) (n : Nat) (σ : Sto) : Option (V × Nat × Sto) :=
  match fn.body with
  | some c => match dcode P cl fn.ntmps k c (fr0 args) n σ with
    | some (.normal, fr', n', σ') | some (.ret, fr', n', σ') => match resV P fn.results.toList fr' σ' with
      | some r => if Nat.ble args.length fn.ntmps then some (r, n', σ') else none
      | none => none
    | _ => none
  | none => none

theorem dfun_ok {P : Program} {cl : Calls'} (hcl : CallsOk P cl) {k : Nat} {f : FuncId} {fn : Func} (hf : P.funcs[f]? = some fn) (hn : (fn.name == "runtime.NumGoroutine") = false) {args : List V} {n n' : Nat} {σ σ' : Sto} {r : V} (h : dfun P cl k fn args n σ = some (r, n', σ')) : Spec P f args n σ r n' σ' := by
  unfold dfun at h
  split at h
  · rename_i c hb
    split at h
    · rename_i hd
      split at h
      · rename_i hr
        split at h
        · rename_i hl; cases h; exact Spec.enter hf hn hb (Nat.le_of_ble_eq_true hl) (dcode_ok hcl _ _ _ _ _ _ _ _ _ hd).1 (.inl rfl) hr
        · cases h
      · cases h
    · rename_i hd
      split at h
      · rename_i hr
        split at h
        · rename_i hl; cases h; exact Spec.enter hf hn hb (Nat.le_of_ble_eq_true hl) (dcode_ok hcl _ _ _ _ _ _ _ _ _ hd).1 (.inr rfl) hr
        · cases h
      · cases h
    · cases h
  · cases h

/-- no calls. -/
def noCalls : Calls' := fun _ _ _ _ => none
theorem noCalls_ok (P : Program) : CallsOk P noCalls := fun _ _ _ _ _ _ _ h => by cases h

/-- a table of functions that make nothing that stays. -/
def pure1 (t : FuncId → List V → Option V) : Calls' := fun g args n σ => match t g args with
  | some r => some (r, n, σ)
  | none => none
theorem pure1_ok {P : Program} {t : FuncId → List V → Option V} (h : ∀ g args r, t g args = some r → ∀ n, Spec P g args n no r n no) : CallsOk P (pure1 t) := by
  intro g args n σ r n' σ' e
  unfold pure1 at e
  split at e
  · rename_i r' hr
    cases e
    exact (h g args r hr n).any σ
  · cases e

/-- the program itself, so many calls deep, so many steps a function. -/
def run (P : Program) (s : Nat) : Nat → Calls'
  | 0 => noCalls
  | k + 1 => fun g args n σ => match P.funcs[g]? with
    | some fn => if fn.name == "runtime.NumGoroutine" then none else dfun P (run P s k) s fn args n σ
    | none => none
theorem run_ok (P : Program) (s : Nat) : ∀ k, CallsOk P (run P s k)
  | 0 => noCalls_ok P
  | k + 1 => fun g args n σ r n' σ' h => by
    unfold run at h
    split at h
    · rename_i fn hf
      split at h
      · cases h
      · rename_i hn; exact dfun_ok (run_ok P s k) hf (by simpa using hn) h
    · cases h

/-- tables, one ahead of the other. -/
def orElse (a b : Calls') : Calls' := fun g args n σ => match a g args n σ with
  | some r => some r
  | none => b g args n σ
theorem orElse_ok {P : Program} {a b : Calls'} (ha : CallsOk P a) (hb : CallsOk P b) : CallsOk P (orElse a b) := by
  intro g args n σ r n' σ' h
  unfold orElse at h
  split at h
  · rename_i hr; cases h; exact ha _ _ _ _ _ _ _ hr
  · exact hb _ _ _ _ _ _ _ h

/-- what is told of the result alone. -/
def res (x : Option (V × Nat × Sto)) : Option V := x.map (·.1)
theorem res_some {x : Option (V × Nat × Sto)} {v : V} (h : res x = some v) : ∃ n σ, x = some (v, n, σ) := by
  unfold res at h
  obtain ⟨⟨a, b, c⟩, rfl, rfl⟩ := Option.map_eq_some_iff.1 h
  exact ⟨b, c, rfl⟩

end Go.Proofs.Ytnklnboglijcbaa.D
