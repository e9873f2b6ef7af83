/- The same, reckoned: functions that carry out code on values and objects, and that they are right. Plain Lean over the kit's model; no program. -/
import Derived.Test.YtnklnboglijcbaaD8
namespace Go.Proofs.Ytnklnboglijcbaa.D
open Go Go.RowKit
set_option linter.unusedVariables false

/-- a contract over few objects holds over more. -/
theorem Spec.frame {P : Program} {g : FuncId} {args : List V} {n n' : Nat} {σ σs σs' : Sto} {r : V} (hs : σs.le σ) (h : Spec P g args n σs r n' σs') : Spec P g args n σ r n' (Sto.over n σ σs σs') :=
  ⟨h.there, fun β xs w hS hA => (h.calls β xs w (hS.drop hs) hA).mono fun e w' ⟨x, β', he, hR, hS', st⟩ =>
    let ⟨hS'', st'⟩ := D.frame hS hs st hS'
    ⟨x, β', he, hR, hS'', st'⟩⟩
theorem Spec.congr {P : Program} {g : FuncId} {args : List V} {n n' : Nat} {σ σ' σ'' : Sto} {r : V} (h : Spec P g args n σ r n' σ') (he : ∀ β w, Sim n β σ w → σ' = σ'') : Spec P g args n σ r n' σ'' :=
  ⟨h.there, fun β xs w hS hA => by have := h.calls β xs w hS hA; rwa [he β w hS] at this⟩
/-- a contract of a function that makes nothing, over any objects. -/
theorem Spec.any {P : Program} {g : FuncId} {args : List V} {n : Nat} {r : V} (h : Spec P g args n no r n no) (σ : Sto) : Spec P g args n σ r n σ :=
  (Spec.frame (no_le σ) h).congr fun β w hS => over_no hS

theorem TOp.callSpec {P : Program} {o : Oper} {fr : Fr} {n n' : Nat} {σ σ' : Sto} {x : Operand} {as : Array Operand} {ts : Array TypeId} {g : FuncId} {first cap : List V} {r : V} (h : o.op = .call { callee := .value x, args := as, argTypes := ts })
    (hx : opd fr x = .fn (.func g) first cap) (hs : Spec P g (first ++ as.toList.map (opd fr) ++ cap) n σ r n' σ') : TOp P o fr n σ r n' σ' := by
  intro β a w K Q hS ho hk
  have h1 := ho x (by rw [h]; simp [Op.operands, Call.operands])
  rw [hx] at h1
  obtain ⟨ys, zs, e, hF1, hF3⟩ := (show R1 β (.fn (.func g) first cap) (a.eval x) from h1)
  have hF2 : F2 (R β) (as.toList.map (opd fr)) (as.toList.map a.eval) := F2.map _ _ _ fun y hy => ho y (by rw [h]; simp only [Op.operands, Call.operands]; exact Array.mem_append.2 (.inr (by simpa using hy)))
  have hA := ((hF1.mono fun _ _ => R0.toR).app hF2).app (hF3.mono fun _ _ => R0.toR)
  have hcalls := hs.calls β _ w hS hA
  obtain ⟨fn, hfn, hname, hbody⟩ := hs.there
  unfold Oper.wp
  have hrun : (execOp a.eval o).run P w = .ok (.enter g (ys.toList ++ as.toList.map a.eval ++ zs.toList).toArray) w := by
    unfold execOp
    rw [h]
    simp only [resolve, e, Deferred.ofValue, invoke, callFunc, Sem.run_bind, Sem.run_pure, Result.andThen_ok, run_program, hfn, hname, hbody, Bool.false_eq_true, if_false]
    congr 2
    apply Array.ext'
    simp
  rw [hrun]
  refine hcalls.mono ?_
  rintro e' w' ⟨y, β', rfl, hR, hS', st⟩
  exact hk y β' w' hR hS' st

def notSel : Op → Bool
  | .select .. => false
  | _ => true

/-- the model's own reckoning, where no operand bears an address. -/
def dsc (P : Program) (o : Oper) (fr : Fr) : Option V :=
  if notSel o.op && o.op.operands.all fun x => ((opd fr x).val).isSome then
    match askP P (execOp (fun x => ((opd fr x).val).getD undef) o) with
    | some (.value y) => some (ofC y)
    | _ => none
  else none

theorem dsc_ok {P : Program} {o : Oper} {fr : Fr} {v : V} (h : dsc P o fr = some v) : POp P o fr v := by
  unfold dsc at h
  split at h
  · rename_i hc
    simp only [Bool.and_eq_true] at hc
    split at h
    · rename_i y hy
      cases h
      refine POp.reckon (fun cs b e => ?_) (fun x hx => ?_) hy
      · rw [e] at hc; cases hc.1
      · have := Array.all_eq_true.1 hc.2
        obtain ⟨i, hi, rfl⟩ := Array.mem_iff_getElem.1 hx
        exact this i hi
    · cases h
  · cases h

def intOfV : V → Option Int
  | .sc (.int _ j) => some j
  | _ => none
theorem intOfV_ok {v : V} {j : Int} (h : intOfV v = some j) : ∃ k, v = .sc (.int k j) := by
  unfold intOfV at h
  split at h
  · cases h; exact ⟨_, rfl⟩
  · cases h

def cmpI (op : BinOp) (a b : Int) : Option Bool := match op with
  | .eql => some (eqb a b)
  | .neq => some (!eqb a b)
  | .lss => some (ltb a b)
  | .leq => some (!ltb b a)
  | .gtr => some (ltb b a)
  | .geq => some (!ltb a b)
  | _ => none
def dbin (op : BinOp) (x y : V) : Option V := match x, y with
  | .sc (.int k a), .sc (.int k' b) => if k = k' then match cmpI op a b with
      | some r => some (.sc (.bool r))
      | none => none
    else none
  | _, _ => none
theorem cmpI_ok {P : Program} {op : BinOp} {k : IntKind} {a b : Int} {r : Bool} (h : cmpI op a b = some r) (t : TypeId) (x y : Operand) (w : World) :
    ((do eqGuard op t x y (.int k a) (.int k b); binOp op t (.int k a) (.int k b) : Sem Value)).run P w = .ok (.bool r) w := by
  have hg : (eqGuard op t x y (.int k a) (.int k b)).run P w = .ok () w := by unfold eqGuard; cases op <;> rfl
  rw [Sem.run_bind, hg]
  cases op <;> simp only [cmpI] at h <;> cases h <;> simp [binOp, Op.intCmp, ltb_eq, eqb_eq]
  · rw [Bool.eq_iff_iff]; simp
  · rw [Bool.eq_iff_iff]; simp
  · rw [Bool.eq_iff_iff]; simp
theorem dbin_ok {P : Program} {o : Oper} {fr : Fr} {op : BinOp} {t u : TypeId} {x y : Operand} {v : V} (h : o.op = .binOp op t x y u) (hv : dbin op (opd fr x) (opd fr y) = some v) : POp P o fr v :=
  fun β a w ho => by
    unfold dbin at hv
    split at hv
    · rename_i k i k' j hx hy
      split at hv
      · rename_i hk
        subst hk
        split at hv
        · rename_i r hr
          cases hv
          have g1 : a.eval x = .int k i := by have := ho x (by rw [h]; simp [Op.operands]); rw [hx] at this; exact this.1
          have g2 : a.eval y = .int k j := by have := ho y (by rw [h]; simp [Op.operands]); rw [hy] at this; exact this.1
          have hr' := cmpI_ok (P := P) (k := k) hr t x y w
          rw [Sem.run_bind] at hr'
          exact ⟨.bool r, by unfold execOp; rw [h]; simp only [g1, g2, Sem.run_bind, hr', Result.andThen_ok, Sem.run_pure], rfl, rfl⟩
        · cases hv
      · cases hv
    · cases hv

/-- '==' and '!=' of aggregates. -/
def deq (P : Program) (op : BinOp) (t : TypeId) (x y : V) : Option V :=
  match (match op with | .eql => some false | .neq => some true | _ => none), x, y with
  | some ne, .agg cs, .agg ds => match cs.mapM V.flat, ds.mapM V.flat with
    | some xs, some ys => if isAg (P.underlying t) && !P.eqGuardType P.depth t then match eqT P 100 t xs ys with
        | some r => some (.sc (.bool (r != ne)))
        | none => none
      else none
    | _, _ => none
  | _, _, _ => none
theorem deq_ok {P : Program} {o : Oper} {fr : Fr} {op : BinOp} {t u : TypeId} {x y : Operand} {v : V} (h : o.op = .binOp op t x y u) (hv : deq P op t (opd fr x) (opd fr y) = some v) : POp P o fr v := by
  unfold deq at hv
  split at hv
  · rename_i ne cs ds hne hx hy
    split at hv
    · rename_i xs ys hxs hys
      split at hv
      · rename_i hc
        simp only [Bool.and_eq_true, Bool.not_eq_true'] at hc
        split at hv
        · rename_i r hr
          cases hv
          refine POp.eqAgg (u := u) (ne := ne) ?_ hx hy hxs hys hc.1 hc.2 hr
          cases op <;> simp at hne <;> (subst hne; exact h)
        · cases hv
      · cases hv
    · cases hv
  · cases hv

/-! ### rows of numbers -/
def intsOf (k : IntKind) : List V → Option (List Int)
  | [] => some []
  | .sc (.int k' i) :: r => if k = k' then match intsOf k r with
      | some l => some (i :: l)
      | none => none
    else none
  | _ => none
theorem intsOf_ok {k : IntKind} : ∀ {vs : List V} {l : List Int}, intsOf k vs = some l → vs = l.map fun i => .sc (.int k i)
  | [], l, h => by cases h; rfl
  | v :: r, l, h => by
    unfold intsOf at h
    split at h
    · cases h; contradiction
    · rename_i k' i r' he
      cases he
      split at h
      · rename_i hk
        subst hk
        split at h
        · rename_i l' hl; cases h; rw [intsOf_ok hl]; rfl
        · cases h
      · cases h
    · cases h
def Row.len : Row → Nat
  | .any l => l.length
  | .ints _ l => l.length
theorem Row.len_eq (r : Row) : r.vs.length = r.len := by cases r <;> simp [Row.vs, Row.len]
def rowApp (r1 : Row) (a : Nat) (r2 : Row) (off b : Nat) : Row :=
  match r1, r2 with
  | .ints k l, .ints k' l' => if k = k' then .ints k (l.take a ++ (l'.drop off).take b) else .any ((Row.ints k l).vs.take a ++ ((Row.ints k' l').vs.drop off).take b)
  | .ints k l, .any l' => match intsOf k l' with
    | some l'' => .ints k (l.take a ++ (l''.drop off).take b)
    | none => .any ((Row.ints k l).vs.take a ++ (l'.drop off).take b)
  | .any l, .ints k l' => match intsOf k l with
    | some l'' => .ints k (l''.take a ++ (l'.drop off).take b)
    | none => .any (l.take a ++ ((Row.ints k l').vs.drop off).take b)
  | .any l, .any l' => .any (l.take a ++ (l'.drop off).take b)
theorem rowApp_vs (r1 : Row) (a : Nat) (r2 : Row) (off b : Nat) : (rowApp r1 a r2 off b).vs = r1.vs.take a ++ (r2.vs.drop off).take b := by
  unfold rowApp
  split
  · split
    · rename_i h; subst h; simp [Row.vs, List.map_take, List.map_drop]
    · rfl
  · split
    · rename_i h; simp [Row.vs, intsOf_ok h, List.map_take, List.map_drop]
    · rfl
  · split
    · rename_i h; simp [Row.vs, intsOf_ok h, List.map_take, List.map_drop]
    · rfl
  · rfl
/-- a row of values: of numbers, where they all are of one kind. -/
def mkRow (cs : List V) : Row := match cs with
  | .sc (.int k i) :: r => match intsOf k (.sc (.int k i) :: r) with
    | some l => .ints k l
    | none => .any cs
  | _ => .any cs
theorem mkRow_vs (cs : List V) : (mkRow cs).vs = cs := by
  unfold mkRow
  split
  · split
    · rename_i h; exact (intsOf_ok h).symm
    · rfl
  · rfl
def rowCut (r2 : Row) (off b : Nat) : Row := match r2 with
  | .ints k l => .ints k ((l.drop off).take b)
  | .any l => .any ((l.drop off).take b)
theorem rowCut_vs (r : Row) (off b : Nat) : (rowCut r off b).vs = (r.vs.drop off).take b := by cases r <;> simp [rowCut, Row.vs, List.map_take, List.map_drop]

/-- a load of numbers. -/
def loadI (P : Program) (t : TypeId) (k : IntKind) (l : List Int) (off : Nat) : Option (V × Bool) :=
  match P.underlying t, sz P t with
  | some d, some s => if isAg (some d) then some (.agg ((List.range s).map fun j => .sc (.int k (l.getD (off + j) 0))), Nat.ble (off + s) l.length)
    else some (.sc (.int k (l.getD off 0)), Nat.blt off l.length)
  | _, _ => none
theorem loadI_ok {P : Program} {t : TypeId} {k : IntKind} {l : List Int} {off : Nat} {v : V} (h : loadI P t k l off = some (v, true)) : part P t (Row.ints k l).vs off = some v := by
  unfold loadI at h
  unfold part
  split at h
  · rename_i d s hd hs
    simp only [hd, hs]
    split at h
    · rename_i hag
      simp only [Option.some.injEq, Prod.mk.injEq] at h
      obtain ⟨rfl, h⟩ := h
      have hle := Nat.le_of_ble_eq_true h
      rw [if_pos hag, if_pos (by simpa [Row.vs] using hle)]
      congr 2
      apply List.ext_getElem?
      intro i
      simp only [Row.vs, List.getElem?_take, List.getElem?_drop, List.getElem?_map]
      by_cases hi : i < s
      · have h1 : off + i < l.length := by omega
        simp [hi, h1, List.getD]
      · simp [hi]
    · rename_i hag
      simp only [Option.some.injEq, Prod.mk.injEq] at h
      obtain ⟨rfl, h⟩ := h
      have hlt : off < l.length := Nat.le_of_ble_eq_true h
      rw [if_neg hag]
      simp [Row.vs, hlt, List.getD]
  · cases h

/-- the place of an element of a slice. -/
def idxOp : Op → Option (TypeId × Operand × Operand)
  | .indexAddr t x i => some (t, x, i)
  | _ => none
theorem idxOp_ok {op : Op} {t : TypeId} {x i : Operand} (h : idxOp op = some (t, x, i)) : op = .indexAddr t x i := by
  unfold idxOp at h; split at h <;> cases h; rfl
def didx (P : Program) (o : Oper) (fr : Fr) : Option (V × Bool) :=
  match idxOp o.op with
  | some (t, x, i) => match opd fr x, P.underlying t with
    | .sl id off len z _ _, some (.slice el) => match opd fr i with
      | .sc (.int _ (Int.ofNat m)) => if sz P el == some z then some (.ptr id (off + m * z), Nat.blt m len) else none
      | _ => none
    | _, _ => none
  | none => none
theorem didx_ok {P : Program} {o : Oper} {fr : Fr} {v : V} (h : didx P o fr = some (v, true)) : POp P o fr v := by
  unfold didx at h
  split at h
  · rename_i t x i hop
    split at h
    · rename_i id off len z top cap el hx hu
      split at h
      · rename_i kd m hi
        split at h
        · rename_i hz
          simp only [Option.some.injEq, Prod.mk.injEq] at h
          obtain ⟨rfl, h⟩ := h
          have hlt : m < len := Nat.le_of_ble_eq_true h
          exact POp.indexSl (j := Int.ofNat m) (idxOp_ok hop) hx hi hu (by simpa using hz) (Int.natCast_nonneg m) (Int.ofNat_lt.2 hlt)
        · cases h
      · cases h
    · cases h
  · cases h

def bound (fr : Fr) (d : Nat) : Option Operand → Option Nat
  | none => some d
  | some y => match opd fr y with
    | .sc (.int .i64 (Int.ofNat k)) => some k
    | _ => none
theorem bound_ok {fr : Fr} {d k : Nat} {y : Option Operand} (h : bound fr d y = some k) : (y = none → k = d) ∧ ∀ z, y = some z → opd fr z = .sc (.int .i64 k) := by
  cases y with
  | none => cases h; exact ⟨fun _ => rfl, fun _ e => by cases e⟩
  | some z =>
    refine ⟨fun e => (by cases e), fun z' e => ?_⟩
    cases e
    simp only [bound] at h
    split at h
    · rename_i e; cases h; exact e
    · cases h
/-- a slice of an array's variable. -/
def dcut (P : Program) (t : TypeId) (x : Operand) (lo hi : Option Operand) (fr : Fr) : Option V :=
  match opd fr x, P.underlying t with
  | .ptr id off, some (.array m e) => match sz P e, bound fr 0 lo, bound fr m hi with
    | some k, some l, some hh => if Nat.ble l hh && Nat.ble hh m && Nat.blt l m then some (.sl id (off + l * k) (hh - l) k false (some (m - l))) else none
    | _, _, _ => none
  | _, _ => none
theorem dcut_ok {P : Program} {o : Oper} {fr : Fr} {t : TypeId} {x : Operand} {lo hi : Option Operand} {v : V} (h : o.op = .slice t x lo hi none) (hv : dcut P t x lo hi fr = some v) : POp P o fr v := by
  unfold dcut at hv
  split at hv
  · rename_i hx hu
    split at hv
    · rename_i hk h1 h2
      split at hv
      · rename_i hc
        simp only [Bool.and_eq_true] at hc
        cases hv
        exact POp.sliceArr h hu hk hx (bound_ok h1) (bound_ok h2) (Nat.le_of_ble_eq_true hc.1.1) (Nat.le_of_ble_eq_true hc.1.2) (Nat.le_of_ble_eq_true hc.2)
      · cases hv
    · cases hv
  · cases hv

def lenOp : Op → Option (Operand × TypeId)
  | .call { callee := .builtin .len, args := ⟨[x]⟩, argTypes := ⟨[t]⟩ } => some (x, t)
  | _ => none
theorem lenOp_ok {op : Op} {x : Operand} {t : TypeId} (h : lenOp op = some (x, t)) : op = .call { callee := .builtin .len, args := #[x], argTypes := #[t] } := by
  unfold lenOp at h
  split at h
  · cases h; rfl
  · cases h
def appOp : Op → Option (Operand × Operand × TypeId)
  | .call { callee := .builtin .append, args := ⟨[x, y]⟩, argTypes := ⟨[t, u]⟩ } => if Nat.beq t u then some (x, y, t) else none
  | _ => none
theorem appOp_ok {op : Op} {x y : Operand} {t : TypeId} (h : appOp op = some (x, y, t)) : op = .call { callee := .builtin .append, args := #[x, y], argTypes := #[t, t] } := by
  unfold appOp at h
  split at h
  · split at h
    · rename_i e; cases h; rw [← Nat.eq_of_beq_eq_true e]
    · cases h
  · cases h
def isNil : V → Bool
  | .sc (.slice none 0 0) => true
  | _ => false
theorem isNil_ok {v : V} (h : isNil v = true) : v = .sc (.slice none 0 0) := by
  unfold isNil at h; split at h
  · rfl
  · cases h
def isSl : V → Bool
  | .sl .. => true
  | _ => false
theorem isSl_ok {v : V} (h : isSl v = true) : ∃ id off len z top cap, v = .sl id off len z top cap := by
  unfold isSl at h; split at h
  · exact ⟨_, _, _, _, _, _, rfl⟩
  · cases h
/-- a slice against nil. -/
def dnil (P : Program) (op : BinOp) (t : TypeId) (x y : V) : Option V :=
  match (match op with | .eql => some false | .neq => some true | _ => none), x, P.underlying t with
  | some ne, .sl .., some (.slice _) => if isNil y then some (.sc (.bool ne)) else none
  | _, _, _ => none
theorem dnil_ok {P : Program} {o : Oper} {fr : Fr} {op : BinOp} {t u : TypeId} {x y : Operand} {v : V} (h : o.op = .binOp op t x y u) (hv : dnil P op t (opd fr x) (opd fr y) = some v) : POp P o fr v := by
  unfold dnil at hv
  split at hv
  · rename_i ne id off len z top cap e hne hx hu
    split at hv
    · rename_i hy
      cases hv
      refine POp.eqNil (u := u) (ne := ne) ?_ hx (isNil_ok hy) hu
      cases op <;> simp at hne <;> (subst hne; exact h)
    · cases hv
  · cases hv
/-- len, append of nothing. -/
def dbuilt (P : Program) (o : Oper) (fr : Fr) : Option V :=
  match lenOp o.op with
  | some (x, t) => match opd fr x, P.underlying t with
    | .sl _ _ len _ _ _, some (.slice _) => some (.sc (.int .i64 (Int.ofNat len)))
    | _, _ => dsc P o fr
  | none => match appOp o.op with
    | some (x, y, t) => match P.underlying t with
      | some (.slice e) => match elOk P e with
        | some (_, _) => if isNil (opd fr y) && (isSl (opd fr x) || isNil (opd fr x)) then some (opd fr x) else none
        | none => none
      | _ => none
    | none => dsc P o fr
theorem dbuilt_ok {P : Program} {o : Oper} {fr : Fr} {v : V} (h : dbuilt P o fr = some v) : POp P o fr v := by
  unfold dbuilt at h
  split at h
  · rename_i x t hl
    split at h
    · rename_i hx hu; cases h; exact POp.lenSl (lenOp_ok hl) hu hx
    · exact dsc_ok h
  · split at h
    · rename_i x y t ha
      split at h
      · rename_i e hu
        split at h
        · rename_i z b hz
          split at h
          · rename_i hc
            simp only [Bool.and_eq_true, Bool.or_eq_true] at hc
            cases h
            exact TOp.appendNone (appOp_ok ha) hu hz (hc.2.imp isSl_ok isNil_ok) (isNil_ok hc.1)
          · cases h
        · cases h
      · cases h
    · exact dsc_ok h

/-- operations that ask of no object, but for 'pick'. -/
def dpure (P : Program) (o : Oper) (fr : Fr) : Option V :=
  match o.op with
  | .move x | .assign x => some (opd fr x)
  | .extract x i => match opd fr x with
    | .tup vs => vs[i]?
    | _ => none
  | .nilCheck x => match opd fr x with
    | .ptr id off => some (.ptr id off)
    | _ => none
  | .fieldAddr s x f => match opd fr x, P.underlying s with
    | .ptr id off, some (.struct fs) => match fs[f]? with
      | some fld => match sz P fld.type with
        | some (_ + 1) => some (.ptr id (off + fld.offset))
        | _ => none
      | none => none
    | _, _ => none
  | .indexAddr t x i => match intOfV (opd fr i) with
    | some j => match opd fr x, P.underlying t with
      | .ptr id off, some (.array len el) => match sz P el with
        | some k => if decide (0 ≤ j) && decide (j < len) then some (.ptr id (off + j.toNat * k)) else none
        | none => none
      | _, _ => none
    | none => none
  | .field t x f => match opd fr x, P.underlying t with
    | .agg cs, some (.struct fs) => match fs[f]? with
      | some fld => part P fld.type cs fld.offset
      | none => none
    | _, _ => none
  | .index t x i => match intOfV (opd fr i) with
    | some j => match opd fr x, P.underlying t with
      | .agg cs, some (.array len el) => match sz P el with
        | some k => if decide (0 ≤ j) && decide (j < len) then part P el cs (j.toNat * k) else none
        | none => none
      | _, _ => none
    | none => none
  | .binOp op t x y _ => match dbin op (opd fr x) (opd fr y) with
    | some v => some v
    | none => match deq P op t (opd fr x) (opd fr y) with
      | some v => some v
      | none => match dnil P op t (opd fr x) (opd fr y) with
        | some v => some v
        | none => dsc P o fr
  | .build t ps => match buildV P t (ps.toList.map fun p => (p.1, opd fr p.2)) with
    | some cs => some (.agg cs)
    | none => none
  | .makeFunc f first cap => if (first.toList.map (opd fr)).all V.bare0 && (cap.toList.map (opd fr)).all V.bare0 then some (.fn f (first.toList.map (opd fr)) (cap.toList.map (opd fr))) else none
  | .pick .. | .alloc _ | .box .. | .load .. | .store .. | .buildSlice .. | .call { callee := .value _, .. } => none
  | .slice t x lo hi none => dcut P t x lo hi fr
  | _ => dbuilt P o fr

theorem dpure_ok {P : Program} {o : Oper} {fr : Fr} {v : V} (h : dpure P o fr = some v) : POp P o fr v := by
  unfold dpure at h
  split at h
  case h_1 x e => cases h; exact POp.move (.inl e)
  case h_2 x e => cases h; exact POp.move (.inr e)
  case h_3 x i e =>
    split at h
    · rename_i vs hx; exact POp.extract e hx h
    · cases h
  case h_4 x e =>
    split at h
    · rename_i hx; cases h; exact POp.nilCheck e hx
    · cases h
  case h_5 s x f e =>
    split at h
    · rename_i hx hu
      split at h
      · rename_i hf
        split at h
        · rename_i hk; cases h; exact POp.fieldAddr e hx hu hf hk (by omega)
        · cases h
      · cases h
    · cases h
  case h_6 t x i e =>
    split at h
    · rename_i j hj
      obtain ⟨kd, hi⟩ := intOfV_ok hj
      split at h
      · rename_i hx hu
        split at h
        · rename_i hk
          split at h
          · rename_i hc
            simp only [Bool.and_eq_true, decide_eq_true_eq] at hc
            cases h; exact POp.indexArr e hx hi hu hk hc.1 hc.2
          · cases h
        · cases h
      · cases h
    · cases h
  case h_7 t x f e =>
    split at h
    · rename_i hx hu
      split at h
      · rename_i hf; exact POp.field e hx hu hf h
      · cases h
    · cases h
  case h_8 t x i e =>
    split at h
    · rename_i j hj
      obtain ⟨kd, hi⟩ := intOfV_ok hj
      split at h
      · rename_i hx hu
        split at h
        · rename_i hk
          split at h
          · rename_i hc
            simp only [Bool.and_eq_true, decide_eq_true_eq] at hc
            exact POp.indexV e hx hi hu hk hc.1 hc.2 h
          · cases h
        · cases h
      · cases h
    · cases h
  case h_9 op t x y u e =>
    split at h
    · rename_i hv; cases h; exact dbin_ok e hv
    · split at h
      · rename_i hv; cases h; exact deq_ok e hv
      · split at h
        · rename_i hv; cases h; exact dnil_ok e hv
        · exact dsc_ok h
  case h_10 t ps e =>
    split at h
    · rename_i hv; cases h; exact POp.build e hv
    · cases h
  case h_11 f first cap e =>
    split at h
    · rename_i hc
      simp only [Bool.and_eq_true] at hc
      cases h; exact POp.makeFunc e hc.1 hc.2
    · cases h
  all_goals first | (cases h; done) | (rename_i e; exact dcut_ok e h) | exact dbuilt_ok h

/-! ### operations that ask of objects: the value, what they make, what they turn -/
abbrev Delta := V × List Ob × List (Nat × Option Ob)
def ext (n : Nat) (σ : Sto) (news : List Ob) (muts : List (Nat × Option Ob)) : Sto := fun id =>
  if Nat.ble n id && Nat.blt id (n + news.length) then news[id - n]? else match muts.find? (fun x => Nat.beq x.1 id) with
    | some x => x.2
    | none => σ id

/-- what calls give: callee, arguments, first free name, objects. -/
abbrev CT := FuncId → List V → Nat → Sto → Option (Delta × Bool)
def CTOk (P : Program) (ct : CT) : Prop := ∀ g args n σ r news muts, ct g args n σ = some ((r, news, muts), true) → Spec P g args n σ r (n + news.length) (ext n σ news muts)

theorem ext_nil (n : Nat) (σ : Sto) : ext n σ [] [] = σ := by
  funext id; unfold ext; simp [Nat.blt]; intro h1 h2; omega
theorem ext_one {n : Nat} {σ : Sto} (ob : Ob) : ext n σ [ob] [] = σ.put n ob := by
  funext id; unfold ext Sto.put
  by_cases e : id = n
  · subst e; simp [Nat.blt]
  · rw [if_neg e, if_neg (by simp [Nat.blt]; omega)]; rfl
theorem ext_put {n : Nat} {σ : Sto} (m : Nat) (ob : Ob) : ext n σ [] [(m, some ob)] = σ.put m ob := by
  funext id; unfold ext Sto.put
  rw [if_neg (by simp [Nat.blt]; omega)]
  by_cases e : id = m
  · subst e; simp
  · rw [if_neg e]; simp [show ¬ m = id from fun h => e h.symm]

theorem ext_app {n id : Nat} {σ : Sto} (ob : Ob) : ext n σ [ob] [(id, none)] = (σ.del id).put n ob := by
  funext j; unfold ext Sto.put Sto.del
  by_cases e : j = n
  · subst e; simp [Nat.blt]
  · rw [if_neg e, if_neg (by simp [Nat.blt]; omega)]
    by_cases e' : j = id
    · subst e'; simp
    · rw [if_neg e']; simp [show ¬ id = j from fun h => e' h.symm]

/-- an object is its cells. -/
theorem ObOk.cells {β : Bt} {w : World} {p : Bl} {o o' : Ob} (h : ObOk β w p o) (hc : o.cells = o'.cells) (hr : o.rw = o'.rw) (he : o.e = o'.e) : ObOk β w p o' := by
  unfold ObOk at h ⊢
  rw [← hc, ← hr, ← he]; exact h
theorem Sim.cells {n : Nat} {β : Bt} {σ : Sto} {m : Nat} {w : World} {ob ob' : Ob} (h : Sim n β (σ.put m ob) w) (hc : ob.cells = ob'.cells) (hr : ob.rw = ob'.rw) (he : ob.e = ob'.e) : Sim n β (σ.put m ob') w := by
  have key : ∀ id o, σ.put m ob' id = some o → ∃ o1, σ.put m ob id = some o1 ∧ o1.cells = o.cells ∧ o1.rw = o.rw ∧ o1.e = o.e := by
    intro id o e
    unfold Sto.put at e ⊢
    split at e
    · rename_i hi; cases e; rw [if_pos hi]; exact ⟨_, rfl, hc, hr, he⟩
    · rename_i hi; rw [if_neg hi]; exact ⟨_, e, rfl, rfl, rfl⟩
  refine ⟨fun id o e => ?_, fun id o id' o' p p' e1 e2 e3 e4 e5 e6 => ?_, h.fresh⟩
  · obtain ⟨o1, k1, k2, k3, k4⟩ := key id o e
    obtain ⟨p, hp, hok⟩ := h.ob id o1 k1
    exact ⟨p, hp, hok.cells k2 k3 k4⟩
  · obtain ⟨o1, k1, k2, k3, k4⟩ := key id o e1
    obtain ⟨o2, l1, l2, l3, l4⟩ := key id' o' e3
    exact h.sep id o1 id' o2 p p' k1 (k3.trans e2) l1 e4 e5 e6
theorem TOp.cells {P : Program} {o : Oper} {fr : Fr} {n n' : Nat} {σ σ' : Sto} {v : V} {m : Nat} {ob ob' : Ob} (h : TOp P o fr n σ v n' (σ'.put m ob)) (hc : ob.cells = ob'.cells) (hr : ob.rw = ob'.rw) (he : ob.e = ob'.e) : TOp P o fr n σ v n' (σ'.put m ob') := by
  intro β a w K Q hS ho hk
  refine h β a w K Q hS ho fun x β' w' hR hS' st => hk x β' w' hR (hS'.cells hc hr he) ⟨st.le, st.os, st.tape, st.output, st.size, st.fr, fun id o p e hp => ?_⟩
  unfold Sto.put at e
  split at e
  · rename_i hi
    cases e
    have := st.own id ob p (by unfold Sto.put; rw [if_pos hi]) hp
    rw [hr] at this; exact this
  · rename_i hi
    exact st.own id o p (by unfold Sto.put; rw [if_neg hi]; exact e) hp

/-- append; what is not a matter of shape is told, not decided. -/
def dapp (P : Program) (x y : V) (t : TypeId) (n : Nat) (σ : Sto) : Option (Delta × Bool) :=
  match P.underlying t with
  | some (.slice e) => match elOk P e with
    | some (z, b) => match y with
      | .sl id' off' m z' _ _ => match σ id' with
        | some ob' => match x with
          | .sl id 0 len z2 true _ => match σ id with
            | some ob => if Nat.beq z z' && Nat.beq z z2 && ob.rw && Nat.beq ob.e e then
                some ((.sl n 0 (len + m) z true none, [⟨rowApp ob.row (len * z) ob'.row off' (m * z), true, e⟩], [(id, none)]),
                  Nat.ble (len * z) ob.row.len && Nat.ble (off' + m * z) ob'.row.len && Nat.ble ((len + m) * b) 140737488355328 && Nat.ble (len + m) maxLen) else none
            | none => none
          | _ => if isNil x && Nat.beq z z' then
              some ((.sl n 0 m z true none, [⟨rowCut ob'.row off' (m * z), true, e⟩], []), Nat.ble (off' + m * z) ob'.row.len && Nat.ble (m * b) 140737488355328 && Nat.ble m maxLen && Nat.blt 0 m) else none
        | none => none
      | _ => none
    | none => none
  | _ => none
theorem dapp_ok {P : Program} {o : Oper} {fr : Fr} {n : Nat} {σ : Sto} {x y : Operand} {t : TypeId} {v : V} {news : List Ob} {muts : List (Nat × Option Ob)} (h : o.op = .call { callee := .builtin .append, args := #[x, y], argTypes := #[t, t] }) (hd : dapp P (opd fr x) (opd fr y) t n σ = some ((v, news, muts), true)) :
    TOp P o fr n σ v (n + news.length) (ext n σ news muts) := by
  unfold dapp at hd
  split at hd
  · rename_i e hu
    split at hd
    · rename_i z b hz
      split at hd
      · rename_i id' off' m z' top' cap' hy
        split at hd
        · rename_i ob' hob'
          split at hd
          · rename_i id len z2 cap hx
            split at hd
            · rename_i ob hob
              split at hd
              · rename_i hc
                simp only [Bool.and_eq_true] at hc
                simp only [Option.some.injEq, Prod.mk.injEq, Bool.and_eq_true] at hd
                obtain ⟨⟨rfl, rfl, rfl⟩, hd⟩ := hd
                obtain rfl := Nat.eq_of_beq_eq_true hc.1.1.1
                obtain rfl := Nat.eq_of_beq_eq_true hc.1.1.2
                rw [ext_app]
                refine TOp.cells (ob := ⟨.any (ob.cells.take (len * z) ++ (ob'.cells.drop off').take (m * z)), true, e⟩) ?_ (rowApp_vs ob.row _ ob'.row off' _).symm rfl rfl
                exact TOp.append h hu hz hx hob hc.1.2 (Nat.eq_of_beq_eq_true hc.2) (by rw [Ob.cells, Row.len_eq]; exact Nat.le_of_ble_eq_true hd.1.1.1) hy hob' (by rw [Ob.cells, Row.len_eq]; exact Nat.le_of_ble_eq_true hd.1.1.2) (Nat.le_of_ble_eq_true hd.1.2) (Nat.le_of_ble_eq_true hd.2)
              · cases hd
            · cases hd
          · split at hd
            · rename_i hc
              simp only [Bool.and_eq_true] at hc
              simp only [Option.some.injEq, Prod.mk.injEq, Bool.and_eq_true] at hd
              obtain ⟨⟨rfl, rfl, rfl⟩, hd⟩ := hd
              obtain rfl := Nat.eq_of_beq_eq_true hc.2
              rw [ext_one]
              refine TOp.cells (ob := ⟨.any ((ob'.cells.drop off').take (m * z)), true, e⟩) ?_ (rowCut_vs ob'.row off' _).symm rfl rfl
              exact TOp.appendNil h hu hz (isNil_ok hc.1) hy hob' (by rw [Ob.cells, Row.len_eq]; exact Nat.le_of_ble_eq_true hd.1.1.1) (Nat.le_of_ble_eq_true hd.1.1.2) (Nat.le_of_ble_eq_true hd.1.2) (Nat.le_of_ble_eq_true hd.2)
            · cases hd
        · cases hd
      · cases hd
    · cases hd
  · cases hd

def dmem (P : Program) (ct : CT) (o : Oper) (fr : Fr) (n : Nat) (σ : Sto) : Option (Delta × Bool) :=
  match o.op with
  | .alloc t => match zro P t with
    | some cs => some ((.ptr n 0, [⟨cs, true, t⟩], []), true)
    | none => none
  | .box t x => if (opd fr x).var then some ((.ptr n 0, [⟨(opd fr x).cells, true, t⟩], []), true) else none
  | .load t x => match opd fr x with
    | .ptr id off => match σ id with
      | some ob => match ob.row with
        | .any l => match part P t l off with
          | some v => some ((v, [], []), true)
          | none => none
        | .ints k l => match loadI P t k l off with
          | some (v, c) => some ((v, [], []), c)
          | none => none
      | none => none
    | _ => none
  | .store t x y => match opd fr x with
    | .ptr id off => match σ id with
      | some ob => if ob.rw && (opd fr y).var && sz P t == some (opd fr y).cells.length then match ob.row with
          | .any l => if Nat.ble (off + (opd fr y).cells.length) l.length then some ((.und, [], [(id, some ⟨.any (splice l off (opd fr y).cells), true, ob.e⟩)]), true) else none
          | .ints k l => match intsOf k (opd fr y).cells with
            | some xs => some ((.und, [], [(id, some ⟨.ints k (splice l off xs), true, ob.e⟩)]), Nat.ble (off + (opd fr y).cells.length) l.length)
            | none => none
        else none
      | none => none
    | _ => none
  | .call { callee := .value x, args := as, argTypes := _ } => match opd fr x with
    | .fn (.func g) first cap => ct g (first ++ as.toList.map (opd fr) ++ cap) n σ
    | _ => none
  | .buildSlice t len parts => match buildS P t len (parts.toList.map fun p => (p.1, opd fr p.2)) with
    | some (e, k, cs) => some ((.sl n 0 len k true (some len), [⟨mkRow cs, true, e⟩], []), true)
    | none => none
  | op => match appOp op with
    | some (x, y, t) => dapp P (opd fr x) (opd fr y) t n σ
    | none => none

theorem splice_map {α β : Type} (f : α → β) (l : List α) (off : Nat) (xs : List α) : splice (l.map f) off (xs.map f) = (splice l off xs).map f := by
  simp [splice, List.map_take, List.map_drop]
theorem dmem_ok {P : Program} {ct : CT} (hct : CTOk P ct) {o : Oper} {fr : Fr} {n : Nat} {σ : Sto} {v : V} {news : List Ob} {muts : List (Nat × Option Ob)} (h : dmem P ct o fr n σ = some ((v, news, muts), true)) : TOp P o fr n σ v (n + news.length) (ext n σ news muts) := by
  unfold dmem at h
  split at h
  case h_1 t e =>
    split at h
    · rename_i hz; cases h; rw [ext_one]; exact TOp.alloc e hz
    · cases h
  case h_2 t x e =>
    split at h
    · rename_i hv; cases h; rw [ext_one]; exact TOp.box e hv
    · cases h
  case h_3 t x e =>
    split at h
    · rename_i hx
      split at h
      · rename_i ob hob
        split at h
        · rename_i l hl
          split at h
          · rename_i hv; cases h; rw [ext_nil]; exact TOp.load e hx hob (by rw [Ob.cells, hl]; exact hv)
          · cases h
        · rename_i k l hl
          split at h
          · rename_i hv; cases h; rw [ext_nil]; exact TOp.load e hx hob (by rw [Ob.cells, hl]; exact loadI_ok hv)
          · cases h
      · cases h
    · cases h
  case h_4 t x y e =>
    split at h
    · rename_i hx
      split at h
      · rename_i ob hob
        split at h
        · rename_i hc
          simp only [Bool.and_eq_true, beq_iff_eq] at hc
          split at h
          · rename_i l hl
            split at h
            · rename_i hle
              cases h
              rw [ext_put]
              have := TOp.store (n := n) e hx hob hc.1.1 hc.1.2 hc.2 (by rw [Ob.cells, hl]; exact Nat.le_of_ble_eq_true hle)
              rw [show ob.cells = l from by rw [Ob.cells, hl]; rfl] at this
              exact this
            · cases h
          · rename_i k l hl
            split at h
            · rename_i xs hxs
              simp only [Option.some.injEq, Prod.mk.injEq] at h
              obtain ⟨⟨rfl, rfl, rfl⟩, h⟩ := h
              rw [ext_put]
              have hv := intsOf_ok hxs
              refine TOp.cells (ob := ⟨.any (splice ob.cells _ (opd fr y).cells), true, ob.e⟩) (TOp.store e hx hob hc.1.1 hc.1.2 hc.2 (by rw [Ob.cells, hl, Row.len_eq]; exact Nat.le_of_ble_eq_true h)) ?_ rfl rfl
              rw [Ob.cells_any, Ob.cells, hl, hv]
              exact splice_map _ _ _ _
            · cases h
        · cases h
      · cases h
    · cases h
  case h_5 x as ts e =>
    split at h
    · rename_i g first cap hx
      have hs := hct _ _ _ _ _ _ _ h
      exact TOp.callSpec e hx hs
    · cases h
  case h_6 t len parts e =>
    split at h
    · rename_i e' k' cs hb; cases h; rw [ext_one]; exact TOp.cells (ob := ⟨.any cs, true, e'⟩) (TOp.buildSlice e hb) (mkRow_vs cs).symm rfl rfl
    · cases h
  case h_7 =>
    split at h
    · rename_i ha; exact dapp_ok (appOp_ok ha) h
    · cases h

/-! ### the way: which answer is taken at a test that is not known; 'ck': it is the test's own -/
abbrev Way := List (Nat × Bool)
def Way.at (φ : Way) (i : Nat) : Option Bool := match φ.find? (fun x => Nat.beq x.1 i) with
  | some x => some x.2
  | none => none
def br (φ : Way) (i : Nat) (b : Bool) : Bool := match φ.at i with
  | some c => c
  | none => b
def ck (φ : Way) (i : Nat) (b : Bool) : Bool := match φ.at i with
  | some c => b == c
  | none => true
theorem br_ok {φ : Way} {i : Nat} {b : Bool} (h : ck φ i b = true) : br φ i b = b := by
  unfold ck at h; unfold br
  split at h
  · exact (beq_iff_eq.1 h).symm
  · rfl

/-- is an operation wanted? -/
def guardB (fr : Fr) (ops : Array Oper) (o : Oper) : Option (Option (Bool × Bool)) :=
  match o.guard with
  | none => some none
  | some (j, want) => match (ops[j]?).bind (·.dst) with
    | some t => match fr t with
      | .sc (.bool b) => some (some (b, want))
      | _ => none
    | none => none
theorem guardB_none {fr : Fr} {ops : Array Oper} {o : Oper} (h : guardB fr ops o = some none) : wants fr ops o = some true := by
  unfold guardB at h
  unfold wants
  split at h
  · rename_i e; rw [e]
  · rename_i j want e
    split at h
    · split at h <;> cases h
    · cases h
theorem guardB_some {fr : Fr} {ops : Array Oper} {o : Oper} {b want : Bool} (h : guardB fr ops o = some (some (b, want))) : wants fr ops o = some (b == want) := by
  unfold guardB at h
  unfold wants
  split at h
  · cases h
  · rename_i j want' e
    rw [e]
    split at h
    · rename_i t ht
      simp only [ht]
      split at h
      · rename_i b' hb; cases h; simp only [hb]
      · cases h
    · cases h

/-- the state of a run: slots, first free name, objects, tests met, all answers right so far. -/
structure St where
  fr : Fr
  n : Nat
  σ : Sto
  i : Nat
  ok : Bool

def isPick : Op → Option (Operand × Operand × Operand)
  | .pick c x y => some (c, x, y)
  | _ => none
theorem isPick_ok {op : Op} {c x y : Operand} (h : isPick op = some (c, x, y)) : op = .pick c x y := by
  unfold isPick at h; split at h <;> cases h; rfl

def boolOf : V → Option Bool
  | .sc (.bool b) => some b
  | _ => none
theorem boolOf_ok {v : V} {b : Bool} (h : boolOf v = some b) : v = .sc (.bool b) := by
  unfold boolOf at h; split at h <;> cases h; rfl

/-- one operation that runs. -/
def dop (P : Program) (ct : CT) (φ : Way) (o : Oper) (s : St) : Option (Delta × Nat × Bool × Bool) :=
  match isPick o.op with
  | some (c, x, y) => match boolOf (opd s.fr c) with
    | some b => some ((bif br φ s.i b then opd s.fr x else opd s.fr y, [], []), s.i + 1, ck φ s.i b, true)
    | none => none
  | none => match didx P o s.fr with
    | some (v, c) => some ((v, [], []), s.i, c, true)
    | none => match dpure P o s.fr with
    | some v => some ((v, [], []), s.i, true, true)
    | none => match dmem P ct o s.fr s.n s.σ with
      | some (d, c) => some (d, s.i, c, false)
      | none => none

theorem dop_ok {P : Program} {ct : CT} (hct : CTOk P ct) {φ : Way} {o : Oper} {s : St} {v : V} {news : List Ob} {muts : List (Nat × Option Ob)} {i : Nat} {c p : Bool} (h : dop P ct φ o s = some ((v, news, muts), i, c, p)) (hc : c = true) :
    TOp P o s.fr s.n s.σ v (s.n + news.length) (ext s.n s.σ news muts) ∧ (p = true → POp P o s.fr v ∧ news = [] ∧ muts = []) := by
  unfold dop at h
  split at h
  · rename_i x y z hp
    split at h
    · rename_i b hb
      cases h
      have hbr := br_ok hc
      have := POp.pick (P := P) (isPick_ok hp) (boolOf_ok hb)
      rw [hbr]
      rw [ext_nil]
      exact ⟨this.op, fun _ => ⟨this, rfl, rfl⟩⟩
    · cases h
  · split at h
    · rename_i v' c' hv; cases h; subst hc
      have := didx_ok hv
      rw [ext_nil]
      exact ⟨this.op, fun _ => ⟨this, rfl, rfl⟩⟩
    split at h
    · rename_i v' hv; cases h
      have := dpure_ok hv
      rw [ext_nil]
      exact ⟨this.op, fun _ => ⟨this, rfl, rfl⟩⟩
    · split at h
      · rename_i d c' hd; cases h; subst hc; exact ⟨dmem_ok hct hd, fun e => by cases e⟩
      · cases h

def dstOk (nt : Nat) : Option Tmp → Bool
  | none => true
  | some t => Nat.blt t nt
theorem dstOk_ok {nt : Nat} {d : Option Tmp} (h : dstOk nt d = true) : ∀ t, d = some t → t < nt := by
  rintro t rfl
  exact Nat.le_of_ble_eq_true h

def St.next (s : St) (o : Oper) (v : V) (news : List Ob) (muts : List (Nat × Option Ob)) (i : Nat) (c : Bool) : St := ⟨upd s.fr o.dst v, s.n + news.length, ext s.n s.σ news muts, i, c && s.ok⟩

def dops (P : Program) (ct : CT) (φ : Way) (nt : Nat) (ops : Array Oper) : List Oper → St → Option St
  | [], s => some s
  | o :: l, s =>
    if dstOk nt o.dst then
      match guardB s.fr ops o with
      | some none => match dop P ct φ o s with
        | some ((v, news, muts), i, c, _) => dops P ct φ nt ops l (s.next o v news muts i c)
        | none => none
      | some (some (b, want)) =>
        if br φ s.i b == want then
          match dop P ct φ o { s with i := s.i + 1, ok := ck φ s.i b && s.ok } with
          | some ((v, news, muts), i, c, _) => dops P ct φ nt ops l (St.next { s with i := s.i + 1, ok := ck φ s.i b && s.ok } o v news muts i c)
          | none => none
        else dops P ct φ nt ops l ⟨upd s.fr o.dst .und, s.n, s.σ, s.i + 1, ck φ s.i b && s.ok⟩
      | none => none
    else none

theorem dops_ok {P : Program} {ct : CT} (hct : CTOk P ct) {φ : Way} {nt : Nat} {ops : Array Oper} : ∀ {l : List Oper} {s s' : St}, dops P ct φ nt ops l s = some s' → s'.ok = true → TL P nt ops l s.fr s.n s.σ s'.fr s'.n s'.σ ∧ s.ok = true
  | [], s, s', h, hok => by cases h; exact ⟨TL.nil, hok⟩
  | o :: l, s, s', h, hok => by
    unfold dops at h
    split at h
    · rename_i hd
      split at h
      · rename_i hg
        split at h
        · rename_i v news muts i c p ho
          obtain ⟨h1, h2⟩ := dops_ok hct h hok
          simp only [St.next, Bool.and_eq_true] at h2
          exact ⟨TL.cons (guardB_none hg) (dstOk_ok hd) (dop_ok hct ho h2.1).1 h1, h2.2⟩
        · cases h
      · rename_i b want hg
        split at h
        · rename_i hb
          split at h
          · rename_i v news muts i c p ho
            obtain ⟨h1, h2⟩ := dops_ok hct h hok
            simp only [St.next, Bool.and_eq_true] at h2
            rw [br_ok h2.2.1] at hb
            exact ⟨TL.cons (by rw [guardB_some hg, hb]) (dstOk_ok hd) (dop_ok hct ho h2.1).1 h1, h2.2.2⟩
          · cases h
        · rename_i hb
          obtain ⟨h1, h2⟩ := dops_ok hct h hok
          simp only [Bool.and_eq_true] at h2
          rw [br_ok h2.1] at hb
          exact ⟨TL.idle (by rw [guardB_some hg]; simpa using hb) (dstOk_ok hd) h1, h2.2⟩
      · cases h
    · cases h

end Go.Proofs.Ytnklnboglijcbaa.D
