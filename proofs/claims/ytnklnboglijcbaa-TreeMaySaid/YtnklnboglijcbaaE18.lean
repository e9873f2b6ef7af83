/- Operations, reckoned: functions that say what an operation gives, and that they are right. Plain Lean over the kit's model; no program. -/
import Derived.Test.YtnklnboglijcbaaE17
namespace Go.Proofs.Ytnklnboglijcbaa.E
open Go Go.RowKit
set_option linter.unusedVariables false

def notSel : Op → Bool
  | .select .. => false
  | _ => true
def isDef : V → Bool
  | .und => false
  | _ => true

/-- '==' and '!=' against nil. -/
def dnil (P : Program) (op : BinOp) (t : TypeId) (x y : V) : Option V :=
  match (match op with | .eql => some false | .neq => some true | _ => none) with
  | none => none
  | some ne => match P.underlying t with
    | some (.pointer pt) => if Nat.beq pt (P.pointee t) then match y with
        | .sc (.pointer none) => match x with
          | .sc (.pointer none) => some (.bool (.lit (!ne)))
          | x => if x.isPtr then some (.bool (.lit ne)) else none
        | _ => none
      else none
    | _ => none
def boolT : Option TypeDesc → Bool
  | some .bool => true
  | _ => false
theorem boolT_ok {d : Option TypeDesc} (h : boolT d = true) : d = some .bool := by unfold boolT at h; split at h; rfl; cases h
def isBoolV : V → Bool
  | .bool _ => true
  | _ => false
def ofNe (ne : Bool) : BinOp := if ne then .neq else .eql

/-- operations that ask of no object. -/
def dpure (P : Program) (o : Oper) (fr : Fm) : Option (V × List B) :=
  match o.op with
  | .move x | .assign x => some (opd fr x, [])
  | .extract x i => match opd fr x with
    | .tup vs => match vs[i]? with
      | some v => some (v, [])
      | none => none
    | _ => none
  | .nilCheck x => if (opd fr x).isPtr then some (opd fr x, []) else none
  | .fieldAddr s x f => match P.underlying s with
    | some (.struct fs) => match fs[f]? with
      | some fld => match sz P fld.type, fldV fld.offset (opd fr x) with
        | some (_ + 1), some v => some (v, [])
        | _, _ => none
      | none => none
    | _ => none
  | .indexAddr t x i => match opd fr i with
    | .int _ e => match P.underlying t with
      | some (.array m el) => match sz P el with
        | some k => idxV m k e (opd fr x)
        | none => none
      | some (.slice el) => match sz P el with
        | some z => idxS z e (opd fr x)
        | none => none
      | _ => none
    | _ => none
  | .field t x f => match opd fr x, P.underlying t with
    | .agg cs, some (.struct fs) => match fs[f]? with
      | some fld => match sz P fld.type with
        | some k => if Nat.ble (fld.offset + k) cs.length then match ofSeg P fld.type ((cs.drop fld.offset).take k) with
            | some v => some (v, [])
            | none => none
          else none
        | none => none
      | none => none
    | _, _ => none
  | .index t x i => match opd fr x, P.underlying t, opd fr i with
    | .agg cs, some (.array len el), .int _ (.lit (.ofNat j)) => match sz P el with
      | some k => if Nat.blt j len && Nat.ble (j * k + k) cs.length then match ofSeg P el ((cs.drop (j * k)).take k) with
          | some v => some (v, [])
          | none => none
        else none
      | none => none
    | _, _, _ => none
  | .binOp op t x y _ => match dnil P op t (opd fr x) (opd fr y) with
    | some v => some (v, [])
    | none => match deq P op t (opd fr x) (opd fr y) with
      | some v => some (v, [])
      | none => if isBoolV (opd fr x) && !boolT (P.underlying t) then none else dbin op (opd fr x) (opd fr y)
  | .unOp op _ x => match dun op (opd fr x) with
    | some v => some (v, [])
    | none => none
  | .convert s d x => match opd fr x with
    | .int _ e => match P.underlying s, P.underlying d with
      | some _, some (.int k) => some (.int k (mkConv k e), [])
      | _, _ => none
    | _ => none
  | .slice t x lo hi none => match P.underlying t with
    | some (.slice e) => match sz P e, lenV (opd fr x) with
      | some z, some len => match boundE fr (.lit 0) lo, boundE fr len hi with
        | some l, some h => cutV z (opd fr x) (some l) (some h)
        | _, _ => none
      | _, _ => none
    | some (.array m e) => match sz P e, boundE fr (.lit 0) lo, boundE fr (.lit (.ofNat m)) hi with
      | some k, some l, some h => match litE l, litE h with
        | some l, some h => cutA m k l h (opd fr x)
        | _, _ => none
      | _, _, _ => none
    | _ => none
  | .makeFunc f first cap => if (first.toList.map (opd fr)).all V.cell0 && (cap.toList.map (opd fr)).all V.cell0 then some (.fn f (first.toList.map (opd fr)) (cap.toList.map (opd fr)), []) else none
  | .build t parts => match buildV P t (parts.toList.map fun p => (p.1, opd fr p.2)) with
    | some cs => some (.agg cs, [])
    | none => none
  | .call { callee := .builtin .len, args := ⟨[x]⟩, argTypes := ⟨[t]⟩ } => match P.underlying t with
    | some (.slice _) => match lenV (opd fr x) with
      | some e => some (.int .i64 e, [])
      | none => none
    | some .string => match opd fr x with
      | .str l => some (.int .i64 (mkLen l), [])
      | _ => none
    | _ => none
  | .call { callee := .builtin .cap, args := ⟨[x]⟩, argTypes := ⟨[t]⟩ } => match P.underlying t, opd fr x with
    | some (.slice _), .sc (.slice none 0 0) => some (.int .i64 (.lit 0), [])
    | _, _ => none
  | .call { callee := .builtin .min, args := ⟨[x, y]⟩, argTypes := _ } => match opd fr x, opd fr y with
    | .int k a, .int k' b => if k = k' then some (.int k (mkIte (mkLt b a) b a), []) else none
    | _, _ => none
  | .call { callee := .builtin .max, args := ⟨[x, y]⟩, argTypes := _ } => match opd fr x, opd fr y with
    | .int k a, .int k' b => if k = k' then some (.int k (mkIte (mkLt a b) b a), []) else none
    | _, _ => none
  | _ => none

theorem dnil_ok {P : Program} {ρ : Env} {o : Oper} {fr : Fm} {op : BinOp} {t u : TypeId} {x y : Operand} {v : V} (h : o.op = .binOp op t x y u) (hv : dnil P op t (opd fr x) (opd fr y) = some v) : POp P ρ o fr v := by
  unfold dnil at hv
  split at hv
  · cases hv
  · rename_i ne hne
    have hop : op = if ne then .neq else .eql := by cases op <;> simp at hne <;> subst hne <;> rfl
    rw [hop] at h
    split at hv
    · rename_i pt hu
      split at hv
      · rename_i hpt
        obtain rfl := Nat.eq_of_beq_eq_true hpt
        split at hv
        · rename_i hy
          split at hv
          · rename_i hx; cases hv; exact POp.eqNilNil h hx hy hu
          · split at hv
            · rename_i hx; cases hv; exact POp.eqNilP h hx hy hu
            · cases hv
        · cases hv
      · cases hv
    · cases hv

theorem dpure_ok {P : Program} {ρ : Env} {o : Oper} {fr : Fm} {v : V} {bs : List B} (h : dpure P o fr = some (v, bs)) (hb : ∀ b ∈ bs, b.den ρ = true) : POp P ρ o fr v := by
  unfold dpure at h
  split at h
  · rename_i x e; cases h; exact POp.move (.inl e)
  · rename_i x e; cases h; exact POp.move (.inr e)
  · rename_i x i e
    split at h
    · rename_i vs hx
      split at h
      · rename_i v' hv; cases h; exact POp.extract e hx hv
      · cases h
    · cases h
  · rename_i x e
    split at h
    · rename_i hx; cases h; exact POp.nilCheck e hx
    · cases h
  · rename_i s x f e
    split at h
    · rename_i fs hu
      split at h
      · rename_i fld hf
        split at h
        · rename_i k v' hk hv; cases h; exact POp.fieldAddr e hv hu hf hk (by omega)
        · cases h
      · cases h
    · cases h
  · rename_i t x i e
    split at h
    · rename_i kd ei hi
      split at h
      · rename_i m el hu
        split at h
        · rename_i k hk; exact POp.indexArr e hi rfl hu hk h hb
        · cases h
      · rename_i el hu
        split at h
        · rename_i k hk; exact POp.indexSl e hi hu hk h hb
        · cases h
      · cases h
    · cases h
  · rename_i t x f e
    split at h
    · rename_i cs fs hx hu
      split at h
      · rename_i fld hf
        split at h
        · rename_i k hk
          split at h
          · rename_i hle
            split at h
            · rename_i v' hv; cases h; exact POp.field e hx hu hf hk (Nat.le_of_ble_eq_true hle) hv
            · cases h
          · cases h
        · cases h
      · cases h
    · cases h
  · rename_i t x i e
    split at h
    · rename_i cs len el kd j hx hu hi
      split at h
      · rename_i k hk
        split at h
        · rename_i hc
          simp only [Bool.and_eq_true] at hc
          split at h
          · rename_i v' hv; cases h; exact POp.indexV e hx hi rfl hu hk (Nat.le_of_ble_eq_true hc.1) (Nat.le_of_ble_eq_true hc.2) hv
          · cases h
        · cases h
      · cases h
    · cases h
  · rename_i op t x y u e
    split at h
    · rename_i v' hv; cases h; exact dnil_ok e hv
    · split at h
      · rename_i v' hv; cases h; exact deq_ok e hv
      · split at h
        · cases h
        · rename_i hc
          refine dbin_ok e h hb ?_
          rintro ⟨a, b, hx, hy⟩
          simp only [Bool.and_eq_true, Bool.not_eq_true', not_and, Bool.not_eq_false] at hc
          exact boolT_ok (hc (by rw [hx]; rfl))
  · rename_i op t x e
    split at h
    · rename_i v' hv; cases h; exact dun_ok e hv
    · cases h
  · rename_i s d x e
    split at h
    · rename_i k' ex hx
      split at h
      · rename_i ds k hs hd; cases h; exact POp.convInt e hx (by rw [hs]; rfl) hd
      · cases h
    · cases h
  · rename_i t x lo hi e
    split at h
    · rename_i el hu
      split at h
      · rename_i z len hz hlen
        split at h
        · rename_i l h' hl hh
          exact POp.cut (lo' := some l) (hi' := some h') e hu hz hlen hl hh h hb
        · cases h
      · cases h
    · rename_i m el hu
      split at h
      · rename_i k l h' hk hl hh
        split at h
        · rename_i l' h'' hl' hh'
          obtain rfl := litE_ok hl'
          obtain rfl := litE_ok hh'
          exact POp.cutArr e hu hk hl hh h hb
        · cases h
      · cases h
    · cases h
  · rename_i f first cap e
    split at h
    · rename_i hc
      simp only [Bool.and_eq_true] at hc
      cases h; exact POp.makeFunc e hc.1 hc.2
    · cases h
  · rename_i t parts e
    split at h
    · rename_i cs hv; cases h; exact POp.build e hv
    · cases h
  · rename_i x t e
    split at h
    · rename_i el hu
      split at h
      · rename_i ev hv; cases h; exact POp.lenSl e hu hv
      · cases h
    · rename_i hu
      split at h
      · rename_i l hx; cases h; exact POp.lenStr e hu hx
      · cases h
    · cases h
  · rename_i x t e
    split at h
    · rename_i el hu hx; cases h; exact POp.capNil e hu hx
    · cases h
  · rename_i x y ts e
    split at h
    · rename_i k a k' b hx hy
      split at h
      · rename_i hk; subst hk; cases h; exact POp.minmax (mx := false) e hx hy
      · cases h
    · cases h
  · rename_i x y ts e
    split at h
    · rename_i k a k' b hx hy
      split at h
      · rename_i hk; subst hk; cases h; exact POp.minmax (mx := true) e hx hy
      · cases h
    · cases h
  · cases h

/-! ### operations that read, make, write, move objects -/
/-- objects: new names; others changed, or gone. -/
def ext (n : Nat) (σ : Sto) (news : List (Option Ob)) (muts : List (Nat × Option Ob)) : Sto := fun id =>
  if Nat.ble n id && Nat.blt id (n + news.length) then (match news[id - n]? with | some o => o | none => none)
  else match muts.find? (fun x => Nat.beq x.1 id) with
    | some x => x.2
    | none => σ id
theorem ext_nil (n : Nat) (σ : Sto) : ext n σ [] [] = σ := by
  funext id
  unfold ext
  rw [if_neg (by simp [Nat.blt]; omega)]
  rfl
theorem ext_one (n : Nat) (σ : Sto) (o : Ob) : ext n σ [some o] [] = σ.put n o := by
  funext id
  unfold ext Sto.put
  by_cases h : id = n
  · subst h; simp [Nat.blt]
  · rw [if_neg (by simp [Nat.blt]; omega), if_neg h]; rfl
theorem ext_mut (n : Nat) (σ : Sto) (id0 : Nat) (o : Ob) (h : id0 < n) : ext n σ [] [(id0, some o)] = σ.put id0 o := by
  funext id
  unfold ext Sto.put
  rw [if_neg (by simp [Nat.blt]; omega)]
  by_cases h : id = id0
  · subst h; simp
  · rw [if_neg h]
    have : Nat.beq id0 id = false := by cases e : Nat.beq id0 id with | false => rfl | true => exact (h (Nat.eq_of_beq_eq_true e).symm).elim
    simp [List.find?, this]
theorem ext_del (n : Nat) (σ : Sto) (id0 : Nat) (o : Ob) : ext n σ [some o] [(id0, none)] = (σ.del id0).put n o := by
  funext id
  unfold ext Sto.put Sto.del
  by_cases h : id = n
  · subst h; simp [Nat.blt]
  · rw [if_neg (by simp [Nat.blt]; omega), if_neg h]
    by_cases h2 : id = id0
    · subst h2; simp
    · rw [if_neg h2]
      have : Nat.beq id0 id = false := by cases e : Nat.beq id0 id with | false => rfl | true => exact (h2 (Nat.eq_of_beq_eq_true e).symm).elim
      simp [List.find?, this]

abbrev Mem := V × List (Option Ob) × List (Nat × Option Ob) × List B
def dload (P : Program) (t : TypeId) (r : Row) (i : E) (z c : Nat) : Option Mem := match sz P t with
  | some k => match r.seg i z c k with
    | some (cs, bs) => if Nat.beq cs.length k then match ofSeg P t cs with
        | some v => some (v, [], [], bs)
        | none => none
      else none
    | none => none
  | none => none
def delM : Option Nat → List (Nat × Option Ob)
  | none => []
  | some id => [(id, none)]
def isZero (fr : Fm) : Option Operand → Bool
  | none => false
  | some y => match opd fr y with
    | .int _ (.lit (.ofNat 0)) => true
    | _ => false
def srcT (P : Program) (u : TypeId) : Bool := match P.underlying u with
  | some (.slice _) => true
  | some .string => true
  | _ => false
/-- a number of new elements, onto nil. -/
def makeT (P : Program) (u : TypeId) (x y : V) : Option E := match P.underlying u, x, y with
  | some (.int _), .sc (.slice none 0 0), .int _ len => some len
  | _, _, _ => none
def dmem (P : Program) (o : Oper) (fr : Fm) (n : Nat) (σ : Sto) : Option Mem :=
  match o.op with
  | .alloc t => match zro P t with
    | some cs => some (.ptr n (.lit 0) 0 0, [some ⟨.any cs, true, t⟩], [], [])
    | none => none
  | .box t x => if (opd fr x).var then some (.ptr n (.lit 0) 0 0, [some ⟨.any (opd fr x).cells, true, t⟩], [], []) else none
  | .load t x => match opd fr x with
    | .ptr id i z c => match σ id with
      | some ob => dload P t ob.row i z c
      | none => none
    | .fe r i z c => dload P t r i z c
    | _ => none
  | .store t x y => match opd fr x with
    | .ptr id i z c => if Nat.blt id n then match σ id with
        | some ob => if ob.rw && (opd fr y).var then match sz P t with
            | some k => if Nat.beq (opd fr y).cells.length k then match ob.row.store i z c (opd fr y).cells with
                | some (r, bs) => some (.und, [], [(id, some ⟨r, true, ob.e⟩)], bs)
                | none => none
              else none
            | none => none
          else none
        | none => none
      else none
    | _ => none
  | .buildSlice t len parts => match buildS P t len (parts.toList.map fun p => (p.1, opd fr p.2)) with
    | some (e, k, cs) => some (.sl n 0 (.lit 0) (.lit (.ofNat len)) k true, [some ⟨mkRow cs, true, e⟩], [], [])
    | none => none
  | .makeSlice t x y => match P.underlying t, opd fr x, opd fr y with
    | some (.slice e), .int _ len, .int _ l2 => if l2.same len then match zrow P e len with
        | some (z, r) => some (.sl n 0 (.lit 0) len z true, [some ⟨r, true, e⟩], [], [mkNot (mkLt len (.lit 0)), smallE len])
        | none => none
      else none
    | _, _, _ => none
  | .convert s d x => match P.underlying s, P.underlying d with
    | some .string, some (.slice e) => match P.underlying e, opd fr x with
      | some (.int .u8), .str l => some (.fs 1 (.ints .u8 (mkByt l)), [], [], [])
      | _, _ => none
    | some (.slice e), some .string => match P.underlying e with
      | some (.int .u8) => match srcOf σ 1 (opd fr x), lenV (opd fr x) with
        | some (r, _, bs), some _ => match r.asInts .u8 with
          | some l => some (.str l, [], [], bs)
          | none => none
        | _, _ => none
      | _ => none
    | _, _ => none
  | .slice t x lo hi (some mx) => match P.underlying t with
    | some (.slice e) => match sz P e, lenV (opd fr x), boundE fr (.lit 0) lo with
      | some z, some _, some (.lit (.ofNat 0)) => if isZero fr hi && isZero fr (some mx) then some (.sl n 0 (.lit 0) (.lit 0) z true, [some ⟨.any [], true, e⟩], [], []) else none
      | _, _, _ => none
    | _ => none
  | .call { callee := .builtin .append, args := ⟨[x, y]⟩, argTypes := ⟨[t, u]⟩ } => match P.underlying t with
    | some (.slice e) => match makeT P u (opd fr x) (opd fr y) with
      | some len => match zrow P e len with
        | some (z, r) => some (.sl n 0 (.lit 0) len z true, [some ⟨r, true, e⟩], [], [mkNot (mkLt len (.lit 0)), smallE len])
        | none => none
      | none => match elOk P e with
      | some z => if srcT P u then match baseOf σ z e (opd fr x), srcOf σ z (opd fr y) with
          | some (r1, n1, d, b1), some (r2, n2, b2) => match Row.app r1 r2 with
            | some r => match r.lenE z with
              | some len => some (.sl n 0 (.lit 0) len z true, [some ⟨r, true, e⟩], delM d, smallE len :: (b1 ++ b2))
              | none => none
            | none => none
          | _, _ => none
        else none
      | none => none
    | _ => none
  | .call { callee := .builtin .copy, args := ⟨[x, y]⟩, argTypes := ⟨[t, u]⟩ } => match P.underlying t with
    | some (.slice e) => if sz P e == some 1 && srcT P u then match opd fr x with
        | .sl id co off len 1 _ => match litE off, litE len with
          | some a0, some m => if Nat.blt id n then match σ id with
              | some ob => if ob.rw then match ob.row with
                  | .any cs => if Nat.ble (co + a0 + m) cs.length then match srcOf σ 1 (opd fr y), cs.drop (co + a0) with
                      | some (r, ln, bs), .int k _ :: _ => match r.asInts k with
                        | some l => match copyCells k l ln 0 ((cs.drop (co + a0)).take m) with
                          | some ds => some (.int .i64 ln, [], [(id, some ⟨.any (splice cs (co + a0) ds), true, ob.e⟩)], mkNot (mkLt (.lit (.ofNat m)) ln) :: bs)
                          | none => none
                        | none => none
                      | _, _ => none
                    else none
                  | _ => none
                else none
              | none => none
            else none
          | _, _ => none
        | _ => none
      else none
    | _ => none
  | _ => none

theorem ext_app (n : Nat) (σ : Sto) (d : Option Nat) (o : Ob) : ext n σ [some o] (delM d) = (delO σ d).put n o := by
  cases d with
  | none => exact ext_one n σ o
  | some id => exact ext_del n σ id o
theorem isZero_ok {fr : Fm} {y : Option Operand} (h : isZero fr y = true) : ∃ x k, y = some x ∧ opd fr x = .int k (.lit (.ofNat 0)) := by
  unfold isZero at h
  split at h
  · cases h
  · rename_i x
    split at h
    · rename_i k hx; exact ⟨x, k, rfl, hx⟩
    · cases h
theorem srcT_ok {P : Program} {u : TypeId} (h : srcT P u = true) : (∃ e', P.underlying u = some (.slice e')) ∨ P.underlying u = some .string := by
  unfold srcT at h
  split at h
  · exact .inl ⟨_, by assumption⟩
  · exact .inr (by assumption)
  · cases h
theorem dmem_ok {P : Program} {ρ : Env} {o : Oper} {fr : Fm} {n : Nat} {σ : Sto} {v : V} {news : List (Option Ob)} {muts : List (Nat × Option Ob)} {bs : List B} (h : dmem P o fr n σ = some (v, news, muts, bs)) (hb : ∀ b ∈ bs, b.den ρ = true) : TOp P ρ o fr n σ v (n + news.length) (ext n σ news muts) := by
  unfold dmem at h
  split at h
  · rename_i t e
    split at h
    · rename_i cs hz; cases h; rw [ext_one]; exact TOp.alloc e hz
    · cases h
  · rename_i t x e
    split at h
    · rename_i hv; cases h; rw [ext_one]; exact TOp.box e hv
    · cases h
  · rename_i t x e
    split at h
    · rename_i id i z c hx
      split at h
      · rename_i ob hob
        unfold dload at h
        split at h
        · rename_i k hk
          split at h
          · rename_i cs bs' hs
            split at h
            · rename_i hcl
              split at h
              · rename_i v' hv; cases h; rw [ext_nil]; exact TOp.load e hx hob hk hs hb (Nat.eq_of_beq_eq_true hcl) hv
              · cases h
            · cases h
          · cases h
        · cases h
      · cases h
    · rename_i r i z c hx
      unfold dload at h
      split at h
      · rename_i k hk
        split at h
        · rename_i cs bs' hs
          split at h
          · rename_i hcl
            split at h
            · rename_i v' hv; cases h; rw [ext_nil]; exact TOp.loadF e hx hk hs hb (Nat.eq_of_beq_eq_true hcl) hv
            · cases h
          · cases h
        · cases h
      · cases h
    · cases h
  · rename_i t x y e
    split at h
    · rename_i id i z c hx
      split at h
      · rename_i hlt
        split at h
        · rename_i ob hob
          split at h
          · rename_i hc
            simp only [Bool.and_eq_true] at hc
            split at h
            · rename_i k hk
              split at h
              · rename_i hcl
                split at h
                · rename_i r bs' hs
                  cases h
                  rw [ext_mut n σ id _ (Nat.le_of_ble_eq_true hlt)]
                  exact TOp.store e hx hob hc.1 hc.2 hk (Nat.eq_of_beq_eq_true hcl) hs hb
                · cases h
              · cases h
            · cases h
          · cases h
        · cases h
      · cases h
    · cases h
  · rename_i t len parts e
    split at h
    · rename_i e' k cs hs; cases h; rw [ext_one]; exact TOp.buildSlice e hs
    · cases h
  · rename_i t x y e
    split at h
    · rename_i el k1 len k2 l2 hu hx hy
      split at h
      · rename_i hl
        split at h
        · rename_i z r hr
          cases h
          rw [ext_one]
          exact TOp.makeSlice e hu hx hy (by rw [E.same_ok hl]) hr (hb _ (by simp)) (hb _ (by simp))
        · cases h
      · cases h
    · cases h
  · rename_i s d x e
    split at h
    · rename_i el hs hd
      split at h
      · rename_i l hel hx; cases h; rw [ext_nil]; exact TOp.strBytes e hx hs hd hel
      · cases h
    · rename_i el hs hd
      split at h
      · rename_i hel
        split at h
        · rename_i r len bs' le hsrc hlv
          split at h
          · rename_i l hl; cases h; rw [ext_nil]; exact TOp.bytesStr e hs hd hel hsrc (by rw [hlv]; rfl) hb hl
          · cases h
        · cases h
      · cases h
    · cases h
  · rename_i t x lo hi mx e
    split at h
    · rename_i el hu
      split at h
      · rename_i z len hz hlen hlo
        split at h
        · rename_i hc
          simp only [Bool.and_eq_true] at hc
          cases h
          rw [ext_one]
          exact TOp.cap0 e hu hz hlen hlo (isZero_ok hc.1) (isZero_ok hc.2)
        · cases h
      · cases h
    · cases h
  · rename_i x y t u e
    split at h
    · rename_i el hu
      split at h
      · rename_i len hmk
        unfold makeT at hmk
        split at hmk
        · rename_i ku kd len' hku hx hy
          cases hmk
          split at h
          · rename_i z r hr
            cases h
            rw [ext_one]
            exact TOp.appendMake e hu hku hx hy hr (hb _ (by simp)) (hb _ (by simp))
          · cases h
        · cases hmk
      split at h
      · rename_i z hz
        split at h
        · rename_i hst
          split at h
          · rename_i r1 n1 d b1 r2 n2 b2 hx hy
            split at h
            · rename_i r hr
              split at h
              · rename_i len hlen
                cases h
                rw [ext_app]
                exact TOp.append e hu hz (srcT_ok hst) hx hy hr hlen (fun b hm => hb b (by simp [hm])) (fun b hm => hb b (by simp [hm])) (hb _ (by simp))
              · cases h
            · cases h
          · cases h
        · cases h
      · cases h
    · cases h
  · rename_i x y t u e
    split at h
    · rename_i el hu
      split at h
      · rename_i hc0
        simp only [Bool.and_eq_true, beq_iff_eq] at hc0
        split at h
        · rename_i id co off len top hx
          split at h
          · rename_i a0 m hoff hlen
            obtain rfl := litE_ok hoff
            obtain rfl := litE_ok hlen
            split at h
            · rename_i hlt
              split at h
              · rename_i ob hob
                split at h
                · rename_i hrw
                  split at h
                  · rename_i cs hrow
                    split at h
                    · rename_i hfit
                      split at h
                      · rename_i r ln bs' k _ _ hsrc _
                        split at h
                        · rename_i l hl
                          split at h
                          · rename_i ds hd
                            cases h
                            rw [ext_mut n σ id _ (Nat.le_of_ble_eq_true hlt)]
                            exact TOp.copy e hu hc0.1 (srcT_ok hc0.2) hx hob hrw hrow (Nat.le_of_ble_eq_true hfit) hsrc (fun b hm => hb b (by simp [hm])) hl (hb _ (by simp)) hd
                          · cases h
                        · cases h
                      · cases h
                    · cases h
                  · cases h
                · cases h
              · cases h
            · cases h
          · cases h
        · cases h
      · cases h
    · cases h
  · cases h
end Go.Proofs.Ytnklnboglijcbaa.E
