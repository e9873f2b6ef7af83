/- Numbers, truths, what is nil, aggregates compared and built. Plain Lean over the kit's model; no program. -/
import Derived.Test.YtnklnboglijcbaaE7
namespace Go.Proofs.Ytnklnboglijcbaa.E
open Go Go.RowKit
set_option linter.unusedVariables false

section
variable {P : Program} {ρ : Env} {o : Oper} {fr : Fm} {n : Nat} {σ : Sto}

theorem run_shift {op : BinOp} {k k' : IntKind} {a b : Int} (hop : isShift op = true) (hb : 0 ≤ b) (w : World) (t : TypeId) (x y : Operand) :
    ((do eqGuard op t x y (.int k a) (.int k' b); binOp op t (.int k a) (.int k' b) : Sem Value)).run P w = .ok (.int k (binI op k a b)) w := by
  cases op <;> first | (cases hop; done) | skip
  · simp [eqGuard, binOp, Op.shift, binI, show ¬ b < 0 by omega]
  · simp [eqGuard, binOp, Op.shift, binI, show ¬ b < 0 by omega]
theorem run_arith {op : BinOp} {k : IntKind} {a b : Int} (hop : isArith op = true) (w : World) (t : TypeId) (x y : Operand) :
    ((do eqGuard op t x y (.int k a) (.int k b); binOp op t (.int k a) (.int k b) : Sem Value)).run P w = .ok (.int k (binI op k a b)) w := by
  cases op <;> first | (cases hop; done) | simp [eqGuard, binOp, Op.intArith, Op.intBits, binI]
theorem run_div {op : BinOp} {k : IntKind} {a b : Int} (hop : isDiv op = true) (hb : b ≠ 0) (w : World) (t : TypeId) (x y : Operand) :
    ((do eqGuard op t x y (.int k a) (.int k b); binOp op t (.int k a) (.int k b) : Sem Value)).run P w = .ok (.int k (binI op k a b)) w := by
  cases op <;> first | (cases hop; done) | simp [eqGuard, binOp, Op.intDiv, binI, hb]
theorem run_boolEq (t : TypeId) (hu : P.underlying t = some .bool) (a b ne : Bool) (x y : Operand) (w : World) :
    ((do eqGuard (if ne then .neq else .eql) t x y (.bool a) (.bool b); binOp (if ne then .neq else .eql) t (.bool a) (.bool b) : Sem Value)).run P w = .ok (.bool ((a == b) != ne)) w := by
  have h : (Op.equal t (.bool a) (.bool b)).run P w = .ok (a == b) w := run_equalIn_bool' w 9999 t a b hu
  cases ne
  · simp [eqGuard, binOp, h]
  · simp [eqGuard, binOp, h]
theorem run_strEq (t : TypeId) (a b : List Int) (ne : Bool) (x y : Operand) (w : World) :
    ((do eqGuard (if ne then .neq else .eql) t x y (.string (strOf a)) (.string (strOf b)); binOp (if ne then .neq else .eql) t (.string (strOf a)) (.string (strOf b)) : Sem Value)).run P w = .ok (.bool (eqS a b != ne)) w := by
  cases ne
  · simp [eqGuard, binOp, Op.stringOp, strOf_beq]
  · simp [eqGuard, binOp, Op.stringOp, strOf_beq]
theorem eqb_b2i (a b : Bool) : eqb (b2i a) (b2i b) = (a == b) := by cases a <;> cases b <;> rfl

theorem dbin_ok {op : BinOp} {t u : TypeId} {x y : Operand} {v : V} {bs : List B} (h : o.op = .binOp op t x y u) (hv : dbin op (opd fr x) (opd fr y) = some (v, bs)) (hb : ∀ b ∈ bs, b.den ρ = true) (hbool : (∃ a b, opd fr x = .bool a ∧ opd fr y = .bool b) → P.underlying t = some .bool) : POp P ρ o fr v :=
  fun β a w hρ ho => by
    have g1 := ho x (by rw [h]; simp [Op.operands])
    have g2 := ho y (by rw [h]; simp [Op.operands])
    subst hρ
    have fin : ∀ {r : Value}, ((do eqGuard op t x y (a.eval x) (a.eval y); binOp op t (a.eval x) (a.eval y) : Sem Value)).run P w = .ok r w → (execOp a.eval o).run P w = .ok (.value r) w := by
      intro r hr
      unfold execOp; rw [h]
      rw [Sem.run_bind] at hr
      simp only [Sem.run_bind, hr, Result.andThen_ok, Sem.run_pure]
    unfold dbin at hv
    split at hv
    · rename_i k e k' e' hx hy
      rw [hx] at g1; rw [hy] at g2
      rw [R_int g1, R_int g2] at fin
      split at hv
      · rename_i hs
        cases hv
        have h0 := hb _ (List.mem_singleton.2 rfl)
        rw [mkNot_den, mkLt_den, ltb_eq] at h0
        have h0 : 0 ≤ e'.den β.g.env := by
          simp only [E.den, Bool.not_eq_true'] at h0
          have := of_decide_eq_false h0
          omega
        exact ⟨_, fin (run_shift hs h0 w t x y), R.mkInt β k (mkBin_den _ _ _ _ _)⟩
      · split at hv
        · rename_i hk
          subst hk
          split at hv
          · rename_i ha
            cases hv
            exact ⟨_, fin (run_arith ha w t x y), R.mkInt β k (mkBin_den _ _ _ _ _)⟩
          · split at hv
            · rename_i hd
              cases hv
              have h0 := hb _ (List.mem_singleton.2 rfl)
              rw [mkNot_den, mkEq_den, eqb_eq] at h0
              have h0 : e'.den β.g.env ≠ 0 := by simpa [E.den] using h0
              exact ⟨_, fin (run_div hd h0 w t x y), R.mkInt β k (mkBin_den _ _ _ _ _)⟩
            · split at hv
              · rename_i r hr
                cases hv
                exact ⟨_, fin (run_cmp hr t x y w), R.mkBool β rfl⟩
              · cases hv
        · cases hv
    · rename_i b b' hx hy
      have hu := hbool ⟨_, _, hx, hy⟩
      rw [hx] at g1; rw [hy] at g2
      rw [R_bool g1, R_bool g2] at fin
      split at hv
      · cases hv
        exact ⟨_, fin (run_boolEq t hu _ _ false x y w), R.mkBool β (by rw [mkEq_den, mkOfB_den, mkOfB_den, eqb_b2i]; simp)⟩
      · cases hv
        exact ⟨_, fin (run_boolEq t hu _ _ true x y w), R.mkBool β (by rw [mkNot_den, mkEq_den, mkOfB_den, mkOfB_den, eqb_b2i]; simp)⟩
      · cases hv
    · rename_i b b' hx hy
      rw [hx] at g1; rw [hy] at g2
      rw [R_str g1, R_str g2] at fin
      split at hv
      · cases hv
        exact ⟨_, fin (run_strEq t _ _ false x y w), R.mkBool β (by simp [mkSeq_den])⟩
      · cases hv
        exact ⟨_, fin (run_strEq t _ _ true x y w), R.mkBool β (by simp [mkNot_den, mkSeq_den])⟩
      · cases hv
    · cases hv

def dun (op : UnOp) (x : V) : Option V := match op, x with
  | .not, .bool b => some (.bool (mkNot b))
  | .neg, .int k e => some (.int k (mkUn .neg k e))
  | .xor, .int k e => some (.int k (mkUn .xor k e))
  | _, _ => none
theorem dun_ok {op : UnOp} {t : TypeId} {x : Operand} {v : V} (h : o.op = .unOp op t x) (hv : dun op (opd fr x) = some v) : POp P ρ o fr v :=
  fun β a w hρ ho => by
    have g1 := ho x (by rw [h]; simp [Op.operands])
    unfold dun at hv
    split at hv
    · rename_i b hx
      cases hv
      rw [hx] at g1
      exact ⟨.bool (!b.den β.g.env), by unfold execOp; rw [h]; simp [R_bool g1, Op.unary], R.mkBool β (mkNot_den _ _)⟩
    · rename_i k e hx
      cases hv
      rw [hx] at g1
      exact ⟨.int k (unI .neg k (e.den β.g.env)), by unfold execOp; rw [h]; simp [R_int g1, Op.unary, Op.intArith, unI], R.mkInt β k (mkUn_den _ _ _ _)⟩
    · rename_i k e hx
      cases hv
      rw [hx] at g1
      exact ⟨.int k (unI .xor k (e.den β.g.env)), by unfold execOp; rw [h]; simp [R_int g1, Op.unary, Op.intBits, unI], R.mkInt β k (mkUn_den _ _ _ _)⟩
    · cases hv

theorem POp.convInt {s d : TypeId} {x : Operand} {k k' : IntKind} {e : E} (h : o.op = .convert s d x) (hx : opd fr x = .int k' e) (hs : (P.underlying s).isSome = true) (hd : P.underlying d = some (.int k)) : POp P ρ o fr (.int k (mkConv k e)) :=
  fun β a w hρ ho => by
    have g1 := ho x (by rw [h]; simp [Op.operands])
    rw [hx] at g1
    obtain ⟨ds, hds⟩ := Option.isSome_iff_exists.1 hs
    exact ⟨.int k (k.wrap (e.den β.g.env)), by unfold execOp; rw [h]; simp [convert, run_underlying hds, run_underlying hd, R_int g1, Conv.intToInt], R.mkInt β k (mkConv_den _ _ _)⟩

/-! ### against nil -/
def isNilV : V → Bool
  | .sc (.slice none 0 0) => true
  | .sc (.pointer none) => true
  | _ => false
theorem POp.eqNilP {x y : Operand} {t u : TypeId} {ne : Bool} (h : o.op = .binOp (if ne then .neq else .eql) t x y u) (hx : (opd fr x).isPtr = true) (hy : opd fr y = .sc (.pointer none)) (hu : P.underlying t = some (.pointer (P.pointee t))) :
    POp P ρ o fr (.bool (.lit ne)) := fun β a w _ ho => by
  have g1 := ho x (by rw [h]; simp [Op.operands])
  have g2 := ho y (by rw [h]; simp [Op.operands])
  rw [hy] at g2
  have g2' : a.eval y = .pointer none := R_sc g2
  obtain ⟨ad, e'⟩ := g1.isPtr hx
  have hq : (Op.equal t (.pointer (some ad)) (.pointer none)).run P w = .ok false w := by rw [run_equal_pointer_nil w t _ hu]; rfl
  refine ⟨.bool ne, ?_, R.mkBool β rfl⟩
  unfold execOp
  rw [h]
  cases ne
  · have hg : (eqGuard .eql t x y (.pointer (some ad)) (.pointer none)).run P w = .ok () w := rfl
    simp only [e', g2', Bool.false_eq_true, if_false, Sem.run_bind, hg, Result.andThen_ok]
    simp only [binOp, Sem.run_bind, hq, Result.andThen_ok, Sem.run_pure]
  · have hg : (eqGuard .neq t x y (.pointer (some ad)) (.pointer none)).run P w = .ok () w := rfl
    simp only [e', g2', if_true, Sem.run_bind, hg, Result.andThen_ok]
    simp only [binOp, Sem.run_bind, hq, Result.andThen_ok, Sem.run_pure, Bool.not_false]
theorem POp.eqNilNil {x y : Operand} {t u : TypeId} {ne : Bool} (h : o.op = .binOp (if ne then .neq else .eql) t x y u) (hx : opd fr x = .sc (.pointer none)) (hy : opd fr y = .sc (.pointer none)) (hu : P.underlying t = some (.pointer (P.pointee t))) :
    POp P ρ o fr (.bool (.lit (!ne))) := fun β a w _ ho => by
  have g1 := ho x (by rw [h]; simp [Op.operands])
  have g2 := ho y (by rw [h]; simp [Op.operands])
  rw [hx] at g1; rw [hy] at g2
  have e' : a.eval x = .pointer none := R_sc g1
  have g2' : a.eval y = .pointer none := R_sc g2
  have hq : (Op.equal t (.pointer none) (.pointer none)).run P w = .ok true w := by rw [run_equal_pointer_nil w t _ hu]; rfl
  refine ⟨.bool (!ne), ?_, R.mkBool β rfl⟩
  unfold execOp
  rw [h]
  cases ne
  · have hg : (eqGuard .eql t x y (.pointer none) (.pointer none)).run P w = .ok () w := rfl
    simp only [e', g2', Bool.false_eq_true, if_false, Sem.run_bind, hg, Result.andThen_ok]
    simp only [binOp, Sem.run_bind, hq, Result.andThen_ok, Sem.run_pure, Bool.not_false]
  · have hg : (eqGuard .neq t x y (.pointer none) (.pointer none)).run P w = .ok () w := rfl
    simp only [e', g2', if_true, Sem.run_bind, hg, Result.andThen_ok]
    simp only [binOp, Sem.run_bind, hq, Result.andThen_ok, Sem.run_pure]
end

/-! ### '==' of aggregates -/
def slc {α : Type} (xs : List α) (off k : Nat) : List α := (xs.drop off).take k
def eqFs {α β : Type} (P : Program) (eq : TypeId → List α → List α → Option β) (tt : β) (and : β → β → β) (xs ys : List α) : List Field → Option β
  | [] => some tt
  | f :: fs => if f.name = "_" then eqFs P eq tt and xs ys fs else match sz P f.type with
    | some k => match eq f.type (slc xs f.offset k) (slc ys f.offset k), eqFs P eq tt and xs ys fs with
      | some a, some b => some (and a b)
      | _, _ => none
    | none => none
def eqIs {α β : Type} (eq : List α → List α → Option β) (tt : β) (and : β → β → β) (k : Nat) (xs ys : List α) : List Nat → Option β
  | [] => some tt
  | i :: is => match eq (slc xs (i * k) k) (slc ys (i * k) k), eqIs eq tt and k xs ys is with
    | some a, some b => some (and a b)
    | _, _ => none
def eqT (P : Program) : Nat → TypeId → List Value → List Value → Option Bool
  | 0, _, _, _ => none
  | d + 1, t, xs, ys =>
    match P.underlying t with
    | some (.int _) => match xs, ys with
      | [.int k a], [.int k' b] => if k = k' then some (eqb a b) else none
      | _, _ => none
    | some .bool => match xs, ys with
      | [.bool a], [.bool b] => some (a == b)
      | _, _ => none
    | some (.struct fs) => if P.stoodInHeld t then none else eqFs P (eqT P d) true (· && ·) xs ys fs.toList
    | some (.array n e) => match sz P e with
      | some k => eqIs (eqT P d e) true (· && ·) k xs ys (List.range n)
      | none => none
    | _ => none
/-- the numbers of cells, and as one row. -/
def intsAll : List V → Option (List E)
  | [] => some []
  | .int _ i :: r => match intsAll r with
    | some l => some (i :: l)
    | none => none
  | _ => none
def consL : List E → L
  | [] => .nil
  | e :: l => .cons e (consL l)
/-- 'get l o', 'get l (o+1)', .. : all of one row? -/
def runOf (l : L) : Nat → List E → Bool
  | _, [] => true
  | o, .get l' (.lit (.ofNat j)) :: r => Nat.beq j o && l.same l' && runOf l (o + 1) r
  | _, _ => false
def colL (es : List E) : L := match es with
  | .get l (.lit (.ofNat o)) :: r => if runOf l o es then .sub l o es.length else consL es
  | es => consL es
theorem consL_den (ρ : Env) : ∀ es : List E, (consL es).den ρ = es.map (E.den ρ)
  | [] => rfl
  | e :: l => by simp [consL, L.den, consL_den ρ l]
theorem runOf_den (ρ : Env) (l : L) : ∀ (o : Nat) (es : List E), runOf l o es = true → es.map (E.den ρ) = (List.range es.length).map fun i => (l.den ρ).getD (o + i) 0
  | o, [], _ => by simp
  | o, .get l' (.lit (.ofNat j)) :: r, h => by
    simp only [runOf, Bool.and_eq_true] at h
    obtain rfl := Nat.eq_of_beq_eq_true h.1.1
    obtain rfl := L.same_ok h.1.2
    rw [List.map_cons, runOf_den ρ l (j + 1) r h.2, List.length_cons, List.range_succ_eq_map, List.map_cons]
    simp only [E.den, Int.ofNat_eq_natCast, Int.toNat_natCast, Nat.add_zero, List.map_map, List.cons.injEq, true_and]
    apply List.map_congr_left
    intro i _
    simp only [Function.comp]
    rw [Nat.add_right_comm, Nat.add_assoc]
  | o, .get l' (.lit (.negSucc j)) :: r, h => by simp [runOf] at h
  | o, .get l' (.var _) :: r, h | o, .get l' .ix :: r, h | o, .get l' (.bin ..) :: r, h | o, .get l' (.un ..) :: r, h | o, .get l' (.conv ..) :: r, h | o, .get l' (.get ..) :: r, h | o, .get l' (.len _) :: r, h | o, .get l' (.cnt _) :: r, h | o, .get l' (.ofB _) :: r, h | o, .get l' (.ite ..) :: r, h => by simp [runOf] at h
  | o, .lit _ :: r, h | o, .var _ :: r, h | o, .ix :: r, h | o, .bin .. :: r, h | o, .un .. :: r, h | o, .conv .. :: r, h | o, .len _ :: r, h | o, .cnt _ :: r, h | o, .ofB _ :: r, h | o, .ite .. :: r, h => by simp [runOf] at h
theorem colL_den (ρ : Env) (es : List E) : (colL es).den ρ = es.map (E.den ρ) := by
  unfold colL
  split
  · rename_i l o r
    split
    · rename_i h
      rw [runOf_den ρ l o _ h]; rfl
    · exact consL_den ρ _
  · exact consL_den ρ _

def mkLeq (a b : L) : B := match litsO a, litsO b with
  | some x, some y => .lit (eqL x y)
  | _, _ => bif a.same b then .lit true else .leq a b
theorem mkLeq_den (ρ : Env) (a b : L) : (mkLeq a b).den ρ = eqL (a.den ρ) (b.den ρ) := by
  unfold mkLeq
  split
  · rename_i x y hx hy; rw [litsO_ok ρ hx, litsO_ok ρ hy]; rfl
  · cases h : a.same b with
    | true => rw [L.same_ok h]; simp [B.den, eqL]
    | false => rfl
def eqEs : List E → List E → B
  | [], [] => .lit true
  | a :: as, b :: bs => mkAnd (mkEq a b) (eqEs as bs)
  | _, _ => .lit false
theorem eqEs_den (ρ : Env) : ∀ as bs : List E, (eqEs as bs).den ρ = eqL (as.map (E.den ρ)) (bs.map (E.den ρ))
  | [], [] => rfl
  | a :: as, b :: bs => by
    simp only [eqEs, mkAnd_den, mkEq_den, eqEs_den ρ as bs, eqb_eq, eqL, List.map_cons]
    rw [Bool.eq_iff_iff]; simp
  | [], b :: bs => by simp [eqEs, B.den, eqL]
  | a :: as, [] => by simp [eqEs, B.den, eqL]
def eqInts (as bs : List E) : B := if Nat.ble as.length 8 then eqEs as bs else mkLeq (colL as) (colL bs)
theorem eqInts_den (ρ : Env) (as bs : List E) : (eqInts as bs).den ρ = eqL (as.map (E.den ρ)) (bs.map (E.den ρ)) := by
  unfold eqInts
  split
  · exact eqEs_den ρ as bs
  · rw [mkLeq_den, colL_den, colL_den]
def isIntT : Option TypeDesc → Option IntKind
  | some (.int k) => some k
  | _ => none
/-- do all these have one kind? -/
def allKind (k : IntKind) : List V → Bool
  | [] => true
  | .int k' _ :: r => Nat.beq (kN k) (kN k') && allKind k r
  | _ => false
def eqB (P : Program) : Nat → TypeId → List V → List V → Option B
  | 0, _, _, _ => none
  | d + 1, t, xs, ys =>
    match P.underlying t with
    | some (.int _) => match xs, ys with
      | [.int k a], [.int k' b] => if k = k' then some (mkEq a b) else none
      | _, _ => none
    | some .bool => match xs, ys with
      | [.bool a], [.bool b] => some (mkEq (mkOfB a) (mkOfB b))
      | _, _ => none
    | some (.struct fs) => if P.stoodInHeld t then none else eqFs P (eqB P d) (.lit true) mkAnd xs ys fs.toList
    | some (.array n e) => match sz P e with
      | some k => match isIntT (P.underlying e) with
        | some kd => if Nat.beq k 1 && Nat.blt 0 d && allKind kd xs && allKind kd ys && Nat.beq xs.length n && Nat.beq ys.length n then match intsAll xs, intsAll ys with
            | some as, some bs => some (eqInts as bs)
            | _, _ => none
          else none
        | none => eqIs (eqB P d e) (.lit true) mkAnd k xs ys (List.range n)
      | none => none
    | _ => none

theorem slc_F2 {r : V → Value → Prop} {cs : List V} {xs : List Value} (h : F2 r cs xs) (off k : Nat) : F2 r (slc cs off k) (slc xs off k) := (h.drop off).take k
theorem ints_F2 {β : Bt} {kd : IntKind} : ∀ {cs : List V} {xs : List Value} {es : List E}, F2 (R1 β) cs xs → allKind kd cs = true → intsAll cs = some es → xs = es.map (fun e => Value.int kd (e.den β.g.env)) ∧ es.length = cs.length
  | [], [], es, _, _, h => by cases h; simp
  | c :: cs, x :: xs, es, hf, hk, h => by
    unfold intsAll at h
    split at h
    · cases h; contradiction
    · rename_i k' i r he
      cases he
      split at h
      · rename_i l hl
        cases h
        simp only [allKind, Bool.and_eq_true] at hk
        have hk' := kN_inj hk.1
        subst hk'
        obtain ⟨h1, h2⟩ := ints_F2 hf.2 hk.2 hl
        have hx : x = .int kd (i.den β.g.env) := by have := hf.1; simpa only [R1, R0, F1] using this
        rw [hx, h1]; simp [h2]
      · cases h
    · cases h
theorem eqIs_ints {P : Program} {d e : Nat} {kd : IntKind} (hu : P.underlying e = some (.int kd)) (as bs : List Int) (n : Nat) (ha : as.length = n) (hb : bs.length = n) :
    eqIs (eqT P (d + 1) e) true (· && ·) 1 (as.map (Value.int kd)) (bs.map (Value.int kd)) (List.range n) = some (eqL as bs) := by
  have key : ∀ is : List Nat, (∀ i ∈ is, i < n) → eqIs (eqT P (d + 1) e) true (· && ·) 1 (as.map (Value.int kd)) (bs.map (Value.int kd)) is = some (is.all fun i => eqb (as.getD i 0) (bs.getD i 0)) := by
    intro is
    induction is with
    | nil => intro _; rfl
    | cons i is ih =>
      intro h
      have hi := h i (by simp)
      have h1 : ∀ l : List Int, l.length = n → slc (l.map (Value.int kd)) (i * 1) 1 = [.int kd (l.getD i 0)] := by
        intro l hl
        unfold slc
        rw [Nat.mul_one, List.drop_eq_getElem_cons (by simpa [hl] using hi)]
        simp [List.getD, hl, hi]
      unfold eqIs
      rw [h1 as ha, h1 bs hb, ih fun j hj => h j (by simp [hj])]
      simp [eqT, hu]
  rw [key _ fun i hi => by simpa using hi]
  congr 1
  rw [Bool.eq_iff_iff]
  simp only [List.all_eq_true, List.mem_range, eqb_eq, beq_iff_eq, eqL, decide_eq_true_eq]
  constructor
  · intro h
    apply List.ext_getElem?
    intro i
    by_cases hi : i < n
    · have := h i hi
      simp only [List.getD, ha, hb, hi, List.getElem?_eq_getElem, Option.getD_some] at this ⊢
      rw [this]
    · rw [List.getElem?_eq_none (by omega), List.getElem?_eq_none (by omega)]
  · rintro rfl i _; rfl
theorem eqB_ok {P : Program} {β : Bt} : ∀ {d t : Nat} {cs ds : List V} {xs ys : List Value} {b : B}, eqB P d t cs ds = some b → F2 (R1 β) cs xs → F2 (R1 β) ds ys → eqT P d t xs ys = some (b.den β.g.env)
  | 0, _, _, _, _, _, _, h, _, _ => by cases h
  | d + 1, t, cs, ds, xs, ys, b, h, hx, hy => by
    unfold eqB at h
    split at h
    · rename_i hu
      split at h
      · rename_i k a k' b'
        split at h
        · rename_i hk
          subst hk; cases h
          match xs, ys, hx, hy with
          | [x], [y], hx, hy =>
            have h1 : x = .int k (a.den β.g.env) := by have := hx.1; simpa only [R1, R0, F1] using this
            have h2 : y = .int k (b'.den β.g.env) := by have := hy.1; simpa only [R1, R0, F1] using this
            simp [eqT, hu, h1, h2, mkEq_den]
        · cases h
      · cases h
    · rename_i hu
      split at h
      · rename_i a b'
        cases h
        match xs, ys, hx, hy with
        | [x], [y], hx, hy =>
          have h1 : x = .bool (a.den β.g.env) := by have := hx.1; simpa only [R1, R0, F1] using this
          have h2 : y = .bool (b'.den β.g.env) := by have := hy.1; simpa only [R1, R0, F1] using this
          simp [eqT, hu, h1, h2, mkEq_den, mkOfB_den, eqb_b2i]
      · cases h
    · rename_i fs hu
      split at h
      · cases h
      · rename_i hp
        unfold eqT
        simp only [hu]
        rw [if_neg hp]
        generalize fs.toList = l at h ⊢
        clear hu hp
        induction l generalizing b with
        | nil => cases h; simp [eqFs, B.den]
        | cons f l ih =>
          unfold eqFs at h ⊢
          split at h
          · rename_i hn; rw [if_pos hn]; exact ih _ h
          · rename_i hn
            rw [if_neg hn]
            split at h
            · rename_i k hk
              split at h
              · rename_i a b' ha hb'
                cases h
                simp only [eqB_ok ha (slc_F2 hx _ _) (slc_F2 hy _ _), ih _ hb', mkAnd_den]
              · cases h
            · cases h
    · rename_i m e hu
      split at h
      · rename_i k hk
        unfold eqT
        simp only [hu, hk]
        split at h
        · rename_i kd hkd
          split at h
          · rename_i hc
            simp only [Bool.and_eq_true] at hc
            split at h
            · rename_i as bs has hbs
              cases h
              obtain ⟨h1, h2⟩ := ints_F2 hx hc.1.1.1.2 has
              obtain ⟨h3, h4⟩ := ints_F2 hy hc.1.1.2 hbs
              have hd : 0 < d := Nat.le_of_ble_eq_true hc.1.1.1.1.2
              obtain ⟨d', rfl⟩ : ∃ d', d = d' + 1 := ⟨d - 1, by omega⟩
              have hk1 := Nat.eq_of_beq_eq_true hc.1.1.1.1.1
              subst hk1
              have hue : P.underlying e = some (.int kd) := by
                unfold isIntT at hkd; split at hkd
                · cases hkd; assumption
                · cases hkd
              have := eqIs_ints (P := P) (d := d') hue (as.map (E.den β.g.env)) (bs.map (E.den β.g.env)) m (by rw [List.length_map, h2]; exact Nat.eq_of_beq_eq_true hc.1.2) (by rw [List.length_map, h4]; exact Nat.eq_of_beq_eq_true hc.2)
              rw [h1, h3, eqInts_den]
              rw [List.map_map, List.map_map] at this
              exact this
            · cases h
          · cases h
        · generalize List.range m = l at h ⊢
          clear hu
          induction l generalizing b with
          | nil => cases h; simp [eqIs, B.den]
          | cons j l ih =>
            unfold eqIs at h ⊢
            split at h
            · rename_i a b' ha hb'
              cases h
              simp only [eqB_ok ha (slc_F2 hx _ _) (slc_F2 hy _ _), ih _ hb', mkAnd_den]
            · cases h
      · cases h
    · cases h

/-- a value of a type, of its cells. -/
def ofCells (P : Program) (t : TypeId) (xs : List Value) : Value := if isAg (P.underlying t) then .agg xs.toArray else xs.getD 0 undef
theorem run_part_slc {P : Program} (w : World) {t off k : Nat} {xs : Array Value} {d : TypeDesc} (hd : P.underlying t = some d) (hk : sz P t = some k) (h : isAg (some d) = true ∨ ∃ x, slc xs.toList off k = [x] ∧ k = 1) :
    (Go.part t xs off).run P w = .ok (ofCells P t (slc xs.toList off k)) w := by
  unfold ofCells
  rw [hd]
  cases hag : isAg (some d) with
  | true =>
    simp only [Go.part, Sem.run_bind, run_isAg hd, hag, Result.andThen_ok, if_true, run_sz hk, Sem.run_pure]
    congr 2
    apply Array.ext'
    simp [slc, List.extract_eq_take_drop]
  | false =>
    rcases h with h | ⟨x, hx, rfl⟩
    · rw [hag] at h; cases h
    · have hx' : xs[off]? = some x := by
        have := congrArg (fun l => l[0]?) hx
        simpa [slc, List.getElem?_take, List.getElem?_drop] using this
      simp [Go.part, run_isAg hd, hag, hx', hx]
/-- what 'eqT' says of a type's shape. -/
theorem eqT_shape {P : Program} {d t : Nat} {xs ys : List Value} {r : Bool} (h : eqT P d t xs ys = some r) : ∃ dd, P.underlying t = some dd ∧ (isAg (some dd) = true ∨ (∃ x y, xs = [x] ∧ ys = [y])) := by
  cases d with
  | zero => cases h
  | succ d =>
    unfold eqT at h
    split at h
    all_goals first
      | (rename_i e; refine ⟨_, e, ?_⟩; split at h <;> first | exact .inr ⟨_, _, rfl, rfl⟩ | cases h | exact .inl rfl)
      | cases h
theorem run_eqT {P : Program} (e0 : Nat) : ∀ (d t : Nat) (xs ys : List Value) (r : Bool) (w : World), eqT P d t xs ys = some r → (Op.equalIn (e0 + d) t (ofCells P t xs) (ofCells P t ys)).run P w = .ok r w
  | 0, _, _, _, _, _, h => by cases h
  | d + 1, t, xs, ys, r, w, h => by
    have ih := run_eqT (P := P) e0 d
    have inner : ∀ (t' off k : Nat) (xa ya : Array Value) (r' : Bool), sz P t' = some k → eqT P d t' (slc xa.toList off k) (slc ya.toList off k) = some r' →
        (Go.part t' xa off).run P w = .ok (ofCells P t' (slc xa.toList off k)) w ∧ (Go.part t' ya off).run P w = .ok (ofCells P t' (slc ya.toList off k)) w ∧ (Op.equalIn (e0 + d) t' (ofCells P t' (slc xa.toList off k)) (ofCells P t' (slc ya.toList off k))).run P w = .ok r' w := by
      intro t' off k xa ya r' hk he
      obtain ⟨dd, hdd, hs⟩ := eqT_shape he
      rcases hs with hs | ⟨x, y, hx, hy⟩
      · exact ⟨run_part_slc w hdd hk (.inl hs), run_part_slc w hdd hk (.inl hs), ih _ _ _ _ _ he⟩
      · by_cases hag : isAg (some dd) = true
        · exact ⟨run_part_slc w hdd hk (.inl hag), run_part_slc w hdd hk (.inl hag), ih _ _ _ _ _ he⟩
        · -- a single cell: 'part' takes the cell at 'off'
          have e1 : ∀ (za : Array Value) (z : Value), slc za.toList off k = [z] → (Go.part t' za off).run P w = .ok (ofCells P t' [z]) w := by
            intro za z hz
            have hz' : za[off]? = some z := by
              have := congrArg (fun l => l[0]?) hz
              simp only [slc, List.getElem?_take, List.getElem?_drop] at this
              split at this
              · simpa using this
              · simp at this
            have hag' : isAg (some dd) = false := by simpa using hag
            simp [Go.part, run_isAg hdd, hag', hz', ofCells, hdd]
          refine ⟨?_, ?_, ih _ _ _ _ _ he⟩
          · rw [hx]; exact e1 xa x hx
          · rw [hy]; exact e1 ya y hy
    unfold eqT at h
    rw [show e0 + (d + 1) = (e0 + d) + 1 from rfl]
    split at h
    · rename_i kk hu
      split at h
      · rename_i k a k' b
        split at h
        · rename_i hkk; subst hkk; cases h
          simp only [ofCells, hu, isAg]
          rw [eqb_eq]
          exact run_equalIn_int w (e0 + d) t k kk a b hu
        · cases h
      · cases h
    · rename_i hu
      split at h
      · rename_i a b; cases h
        simp only [ofCells, hu, isAg]
        exact run_equalIn_bool' w (e0 + d) t a b hu
      · cases h
    · rename_i fs hu
      split at h
      · cases h
      · rename_i hp
        have hfs : P.fieldsOf t = fs := by simp [Program.fieldsOf, hu]
        simp only [ofCells, hu, isAg, if_true]
        rw [run_equalIn_struct w (e0 + d) t xs.toArray ys.toArray (by rw [hfs]; exact hu) (by simpa using hp), hfs]
        generalize fs.toList = l at h
        clear hfs hu
        induction l generalizing r with
        | nil => cases h; simp [Op.eqFields]
        | cons f l ihl =>
          unfold eqFs at h
          unfold Op.eqFields
          split at h
          · rename_i hn
            rw [if_neg (by simp [hn])]
            exact ihl r h
          · rename_i hn
            rw [if_pos (by simpa using hn)]
            split at h
            · rename_i k hk
              split at h
              · rename_i a b ha hb
                cases h
                obtain ⟨p1, p2, p3⟩ := inner f.type f.offset k xs.toArray ys.toArray a hk (by simpa using ha)
                simp only [Sem.run_bind, p1, p2, p3, Result.andThen_ok]
                cases a with
                | false => simp
                | true => simpa using ihl b hb
              · cases h
            · cases h
    · rename_i m e hu
      split at h
      · rename_i k hk
        have hi : ∃ i, P.info? e = some i ∧ P.cellsOf e = k := by
          unfold sz at hk
          obtain ⟨i, hi, hk'⟩ := Option.map_eq_some_iff.1 hk
          exact ⟨i, hi, by simp [Program.cellsOf, hi, hk']⟩
        obtain ⟨i, hi, hc⟩ := hi
        simp only [ofCells, hu, isAg, if_true]
        rw [run_equalIn_array w (e0 + d) xs.toArray ys.toArray hu hi, hc]
        generalize List.range m = l at h
        induction l generalizing r with
        | nil => cases h; simp [Op.eqItems]
        | cons j l ihl =>
          unfold eqIs at h
          unfold Op.eqItems
          split at h
          · rename_i a b ha hb
            cases h
            obtain ⟨p1, p2, p3⟩ := inner e (j * k) k xs.toArray ys.toArray a hk (by simpa using ha)
            simp only [Sem.run_bind, p1, p2, p3, Result.andThen_ok]
            cases a with
            | false => simp
            | true => simpa using ihl b hb
          · cases h
      · cases h
    · cases h
/-- '==' and '!=' of two aggregates. -/
def deq (P : Program) (op : BinOp) (t : TypeId) (x y : V) : Option V :=
  match (match op with | .eql => some false | .neq => some true | _ => none), x, y with
  | some ne, .agg cs, .agg ds => if isAg (P.underlying t) && !P.eqGuardType P.depth t then match eqB P 100 t cs ds with
      | some b => some (.bool (bif ne then mkNot b else b))
      | none => none
    else none
  | _, _, _ => none
theorem deq_ok {P : Program} {ρ : Env} {o : Oper} {fr : Fm} {op : BinOp} {t u : TypeId} {x y : Operand} {v : V} (h : o.op = .binOp op t x y u) (hv : deq P op t (opd fr x) (opd fr y) = some v) : POp P ρ o fr v := by
  intro β a w hρ ho
  have g1 := ho x (by rw [h]; simp [Op.operands])
  have g2 := ho y (by rw [h]; simp [Op.operands])
  unfold deq at hv
  split at hv
  · rename_i ne cs ds hne hx hy
    rw [hx] at g1; rw [hy] at g2
    split at hv
    · rename_i hc
      simp only [Bool.and_eq_true, Bool.not_eq_true'] at hc
      split at hv
      · rename_i b hb
        cases hv
        obtain ⟨xa, e1, f1⟩ := g1
        obtain ⟨ya, e2, f2⟩ := g2
        have hrun := run_eqT (P := P) 9900 100 t _ _ _ w (eqB_ok hb f1 f2)
        simp only [ofCells, hc.1, if_true] at hrun
        refine ⟨.bool (b.den β.g.env != ne), ?_, R.mkBool β (by cases ne <;> simp [mkNot_den])⟩
        unfold execOp
        cases op <;> simp at hne <;> subst hne
        · rw [h]; simp only [e1, e2, Sem.run_bind, run_eqGuard_agg w _ _ _ _ _ _ hc.2, Result.andThen_ok, run_eql_struct, hrun, Sem.run_pure]; cases b.den β.g.env <;> rfl
        · rw [h]; simp only [e1, e2, Sem.run_bind, run_eqGuard_agg w _ _ _ _ _ _ hc.2, Result.andThen_ok, run_neq_struct, hrun, Sem.run_pure]; cases b.den β.g.env <;> rfl
      · cases hv
    · cases hv
  · cases hv
end Go.Proofs.Ytnklnboglijcbaa.E
