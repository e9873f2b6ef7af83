/- Aggregates: how they are compared, and built. Plain Lean over the kit's model; no program. -/
import Derived.Test.YtnklnboglijcbaaD5
import Derived.Laws.StructEq
import Derived.ChangeKeysEq
namespace Go.Proofs.Ytnklnboglijcbaa.D
open Go Go.RowKit
set_option linter.unusedVariables false

/-- less, in a form that reckons well. -/
def ltb : Int → Int → Bool
  | .ofNat a, .ofNat b => Nat.blt a b
  | .ofNat _, .negSucc _ => false
  | .negSucc _, .ofNat _ => true
  | .negSucc a, .negSucc b => Nat.blt b a
def eqb : Int → Int → Bool
  | .ofNat a, .ofNat b => Nat.beq a b
  | .negSucc a, .negSucc b => Nat.beq a b
  | _, _ => false
theorem ltb_eq (a b : Int) : ltb a b = decide (a < b) := by
  cases a <;> cases b <;> simp only [ltb] <;> (rw [Bool.eq_iff_iff]; simp [Nat.blt]; try omega)
theorem eqb_eq (a b : Int) : eqb a b = (a == b) := by
  cases a <;> cases b <;> simp only [eqb] <;> (rw [Bool.eq_iff_iff]; simp; try omega)

/-! ### '==' of aggregates -/
def slc (xs : List Value) (off k : Nat) : List Value := (xs.drop off).take k

def eqFs (P : Program) (eq : TypeId → List Value → List Value → Option Bool) (xs ys : List Value) : List Field → Option Bool
  | [] => some true
  | f :: fs => if f.name = "_" then eqFs P eq xs ys fs else match sz P f.type with
    | some k => match eq f.type (slc xs f.offset k) (slc ys f.offset k), eqFs P eq xs ys fs with
      | some a, some b => some (a && b)
      | _, _ => none
    | none => none
def eqIs (eq : List Value → List Value → Option Bool) (k : Nat) (xs ys : List Value) : List Nat → Option Bool
  | [] => some true
  | i :: is => match eq (slc xs (i * k) k) (slc ys (i * k) k), eqIs eq k xs ys is with
    | some a, some b => some (a && b)
    | _, _ => none
def eqT (P : Program) : Nat → TypeId → List Value → List Value → Option Bool
  | 0, _, _, _ => none
  | d + 1, t, xs, ys =>
    match P.underlying t with
    | some (.int _) => match xs, ys with
      | [.int k a], [.int k' b] => if k = k' then some (eqb a b) else none
      | _, _ => none
    | some .bool => match xs, ys with
      | [.bool a], [.bool b] => some (a == b)
      | _, _ => none
    | some .string => match xs, ys with
      | [.string a], [.string b] => some (a.toList == b.toList)
      | _, _ => none
    | some (.struct fs) => if P.stoodInHeld t then none else eqFs P (eqT P d) xs ys fs.toList
    | some (.array n e) => match sz P e with
      | some k => eqIs (eqT P d e) k xs ys (List.range n)
      | none => none
    | _ => none

/-- a value of a type, of its cells. -/
def ofCells (P : Program) (t : TypeId) (xs : List Value) : Value := if isAg (P.underlying t) then .agg xs.toArray else xs.getD 0 undef

theorem run_part_slc {P : Program} (w : World) {t off k : Nat} {xs : Array Value} {d : TypeDesc} (hd : P.underlying t = some d) (hk : sz P t = some k) (h : isAg (some d) = true ∨ ∃ x, slc xs.toList off k = [x] ∧ k = 1) :
    (Go.part t xs off).run P w = .ok (ofCells P t (slc xs.toList off k)) w := by
  unfold ofCells
  rw [hd]
  cases hag : isAg (some d) with
  | true =>
    simp only [Go.part, Sem.run_bind, run_isAg hd, hag, Result.andThen_ok, if_true, run_sz hk, Sem.run_pure]
    congr 2
    apply Array.ext'
    simp [slc, List.extract_eq_take_drop]
  | false =>
    rcases h with h | ⟨x, hx, rfl⟩
    · rw [hag] at h; cases h
    · have hx' : xs[off]? = some x := by
        have := congrArg (fun l => l[0]?) hx
        simpa [slc, List.getElem?_take, List.getElem?_drop] using this
      simp [Go.part, run_isAg hd, hag, hx', hx]

/-- what 'eqT' says of a type's shape. -/
theorem eqT_shape {P : Program} {d t : Nat} {xs ys : List Value} {r : Bool} (h : eqT P d t xs ys = some r) : ∃ dd, P.underlying t = some dd ∧ (isAg (some dd) = true ∨ (∃ x y, xs = [x] ∧ ys = [y])) := by
  cases d with
  | zero => cases h
  | succ d =>
    unfold eqT at h
    split at h
    all_goals first
      | (rename_i e; refine ⟨_, e, ?_⟩; split at h <;> first | exact .inr ⟨_, _, rfl, rfl⟩ | cases h | exact .inl rfl)
      | cases h

theorem run_eqT {P : Program} (e0 : Nat) : ∀ (d t : Nat) (xs ys : List Value) (r : Bool) (w : World), eqT P d t xs ys = some r → (Op.equalIn (e0 + d) t (ofCells P t xs) (ofCells P t ys)).run P w = .ok r w
  | 0, _, _, _, _, _, h => by cases h
  | d + 1, t, xs, ys, r, w, h => by
    have ih := run_eqT (P := P) e0 d
    have inner : ∀ (t' off k : Nat) (xa ya : Array Value) (r' : Bool), sz P t' = some k → eqT P d t' (slc xa.toList off k) (slc ya.toList off k) = some r' →
        (Go.part t' xa off).run P w = .ok (ofCells P t' (slc xa.toList off k)) w ∧ (Go.part t' ya off).run P w = .ok (ofCells P t' (slc ya.toList off k)) w ∧ (Op.equalIn (e0 + d) t' (ofCells P t' (slc xa.toList off k)) (ofCells P t' (slc ya.toList off k))).run P w = .ok r' w := by
      intro t' off k xa ya r' hk he
      obtain ⟨dd, hdd, hs⟩ := eqT_shape he
      rcases hs with hs | ⟨x, y, hx, hy⟩
      · exact ⟨run_part_slc w hdd hk (.inl hs), run_part_slc w hdd hk (.inl hs), ih _ _ _ _ _ he⟩
      · by_cases hag : isAg (some dd) = true
        · exact ⟨run_part_slc w hdd hk (.inl hag), run_part_slc w hdd hk (.inl hag), ih _ _ _ _ _ he⟩
        · -- a single cell: 'part' takes the cell at 'off'
          have e1 : ∀ (za : Array Value) (z : Value), slc za.toList off k = [z] → (Go.part t' za off).run P w = .ok (ofCells P t' [z]) w := by
            intro za z hz
            have hz' : za[off]? = some z := by
              have := congrArg (fun l => l[0]?) hz
              simp only [slc, List.getElem?_take, List.getElem?_drop] at this
              split at this
              · simpa using this
              · simp at this
            have hag' : isAg (some dd) = false := by simpa using hag
            simp [Go.part, run_isAg hdd, hag', hz', ofCells, hdd]
          refine ⟨?_, ?_, ih _ _ _ _ _ he⟩
          · rw [hx]; exact e1 xa x hx
          · rw [hy]; exact e1 ya y hy
    unfold eqT at h
    rw [show e0 + (d + 1) = (e0 + d) + 1 from rfl]
    split at h
    · rename_i kk hu
      split at h
      · rename_i k a k' b
        split at h
        · rename_i hkk; subst hkk; cases h
          simp only [ofCells, hu, isAg]
          rw [eqb_eq]
          exact run_equalIn_int w (e0 + d) t k kk a b hu
        · cases h
      · cases h
    · rename_i hu
      split at h
      · rename_i a b; cases h
        simp only [ofCells, hu, isAg]
        exact run_equalIn_bool' w (e0 + d) t a b hu
      · cases h
    · rename_i hu
      split at h
      · rename_i a b; cases h
        simp only [ofCells, hu, isAg]
        exact run_equalIn_string w (e0 + d) t a b hu
      · cases h
    · rename_i fs hu
      split at h
      · cases h
      · rename_i hp
        have hfs : P.fieldsOf t = fs := by simp [Program.fieldsOf, hu]
        simp only [ofCells, hu, isAg, if_true]
        rw [run_equalIn_struct w (e0 + d) t xs.toArray ys.toArray (by rw [hfs]; exact hu) (by simpa using hp), hfs]
        generalize fs.toList = l at h
        clear hfs hu
        induction l generalizing r with
        | nil => cases h; simp [Op.eqFields]
        | cons f l ihl =>
          unfold eqFs at h
          unfold Op.eqFields
          split at h
          · rename_i hn
            rw [if_neg (by simp [hn])]
            exact ihl r h
          · rename_i hn
            rw [if_pos (by simpa using hn)]
            split at h
            · rename_i k hk
              split at h
              · rename_i a b ha hb
                cases h
                obtain ⟨p1, p2, p3⟩ := inner f.type f.offset k xs.toArray ys.toArray a hk (by simpa using ha)
                simp only [Sem.run_bind, p1, p2, p3, Result.andThen_ok]
                cases a with
                | false => simp
                | true => simpa using ihl b hb
              · cases h
            · cases h
    · rename_i m e hu
      split at h
      · rename_i k hk
        have hi : ∃ i, P.info? e = some i ∧ P.cellsOf e = k := by
          unfold sz at hk
          obtain ⟨i, hi, hk'⟩ := Option.map_eq_some_iff.1 hk
          exact ⟨i, hi, by simp [Program.cellsOf, hi, hk']⟩
        obtain ⟨i, hi, hc⟩ := hi
        simp only [ofCells, hu, isAg, if_true]
        rw [run_equalIn_array w (e0 + d) xs.toArray ys.toArray hu hi, hc]
        generalize List.range m = l at h
        induction l generalizing r with
        | nil => cases h; simp [Op.eqItems]
        | cons j l ihl =>
          unfold eqIs at h
          unfold Op.eqItems
          split at h
          · rename_i a b ha hb
            cases h
            obtain ⟨p1, p2, p3⟩ := inner e (j * k) k xs.toArray ys.toArray a hk (by simpa using ha)
            simp only [Sem.run_bind, p1, p2, p3, Result.andThen_ok]
            cases a with
            | false => simp
            | true => simpa using ihl b hb
          · cases h
      · cases h
    · cases h

section
variable {P : Program} {o : Oper} {fr : Fr}
/-- '==' and '!=' of two aggregates of numbers, bools and strings. -/
theorem POp.eqAgg {t u : TypeId} {x y : Operand} {cs ds : List V} {xs ys : List Value} {r ne : Bool} (h : o.op = .binOp (if ne then .neq else .eql) t x y u) (hx : opd fr x = .agg cs) (hy : opd fr y = .agg ds) (hxs : cs.mapM V.flat = some xs) (hys : ds.mapM V.flat = some ys)
    (hag : isAg (P.underlying t) = true) (hg : P.eqGuardType P.depth t = false) (he : eqT P 100 t xs ys = some r) : POp P o fr (.sc (.bool (r != ne))) :=
  fun β a w ho => by
    have g1 := ho x (by rw [h]; simp [Op.operands])
    have g2 := ho y (by rw [h]; simp [Op.operands])
    rw [hx] at g1; rw [hy] at g2
    obtain ⟨xa, e1, f1⟩ := g1
    obtain ⟨ya, e2, f2⟩ := g2
    have v1 := val_list f1 hxs
    have v2 := val_list f2 hys
    have hrun := run_eqT (P := P) 9900 100 t xs ys r w he
    simp only [ofCells, hag, if_true] at hrun
    have hxa : xs.toArray = xa := by rw [← v1]
    have hya : ys.toArray = ya := by rw [← v2]
    rw [hxa, hya] at hrun
    refine ⟨.bool (r != ne), ?_, rfl, rfl⟩
    unfold execOp
    rw [h]
    cases ne with
    | false => simp only [Bool.false_eq_true, if_false, e1, e2, Sem.run_bind, run_eqGuard_agg w _ _ _ _ _ _ hg, Result.andThen_ok, run_eql_struct, hrun, Sem.run_pure]; cases r <;> rfl
    | true => simp only [if_true, e1, e2, Sem.run_bind, run_eqGuard_agg w _ _ _ _ _ _ hg, Result.andThen_ok, run_neq_struct, hrun, Sem.run_pure]; cases r <;> rfl
end

/-! ### aggregates that are built -/
def vfill (place : Nat → Option (Nat × Nat)) (cells : List V) : List (Nat × V) → Option (List V)
  | [] => some cells
  | (i, v) :: rest => match place i with
    | none => none
    | some (off, size) => if v.var && Nat.beq v.cells.length size && Nat.ble (off + size) cells.length then vfill place (cells.take off ++ v.cells ++ cells.drop (off + size)) rest else none

theorem fill_ok {β : Bt} {place : Nat → Option (Nat × Nat)} : ∀ {ps : List (Nat × V)} {cells cells' : List V} {xs : Array Value} {qs : List (Nat × Value)}, vfill place cells ps = some cells' → F2 (R1 β) cells xs.toList →
    qs.map (·.1) = ps.map (·.1) → F2 (R β) (ps.map (·.2)) (qs.map (·.2)) → ∃ xs', Instr.fill place xs qs = some xs' ∧ F2 (R1 β) cells' xs'.toList
  | [], cells, cells', xs, qs, h, hf, hq, _ => by
    cases h
    cases qs with
    | nil => exact ⟨xs, rfl, hf⟩
    | cons q qs => simp at hq
  | (i, v) :: ps, cells, cells', xs, qs, h, hf, hq, hv => by
    cases qs with
    | nil => simp at hq
    | cons q qs =>
      obtain ⟨j, x⟩ := q
      simp only [List.map_cons, List.cons.injEq] at hq
      obtain ⟨rfl, hq⟩ := hq
      unfold vfill at h
      split at h
      · cases h
      · rename_i off size hp
        split at h
        · rename_i hc
          simp only [Bool.and_eq_true] at hc
          have hvar := hc.1.1
          have hlen : v.cells.length = size := Nat.eq_of_beq_eq_true hc.1.2
          have hfit : off + size ≤ cells.length := Nat.le_of_ble_eq_true hc.2
          have hx := (hv.1.var hvar).cells
          have hxl : x.cells.size = size := by rw [← hlen, hx.length]; simp
          have hcl : cells.length = xs.size := by rw [hf.length]; simp
          have hset := foldl_sets off x.cells.toList 0 xs (by simp; omega)
          simp only [Nat.add_zero] at hset
          have hset' : (x.cells.zipIdx.foldl (fun cs (c, j) => cs.setIfInBounds (off + j) c) xs).toList = xs.toList.take off ++ x.cells.toList ++ xs.toList.drop (off + x.cells.toList.length) := by
            rw [← hset, ← Array.foldl_toList, Array.toList_zipIdx]
          have hf' : F2 (R1 β) (cells.take off ++ v.cells ++ cells.drop (off + size)) (x.cells.zipIdx.foldl (fun cs (c, j) => cs.setIfInBounds (off + j) c) xs).toList := by
            rw [hset']
            have := ((hf.take off).app hx).app (hf.drop (off + size))
            rwa [show size = x.cells.toList.length from by simpa using hxl.symm] at this ⊢
          obtain ⟨xs', h1, h2⟩ := fill_ok h hf' hq hv.2
          refine ⟨xs', ?_, h2⟩
          unfold Instr.fill
          rw [hp]
          simp only [hxl]
          rw [if_neg (by simp; omega)]
          exact h1
        · cases h

/-- places of a struct's fields. -/
def placesF (P : Program) (fs : List Field) : Option (List (Nat × Nat)) := fs.mapM fun f => (sz P f.type).map fun k => (f.offset, k)
def buildV (P : Program) (t : TypeId) (ps : List (Nat × V)) : Option (List V) :=
  match zro P t, P.underlying t with
  | some cs, some (.struct fs) => match placesF P fs.toList with
    | some pl => vfill (fun i => pl[i]?) cs ps
    | none => none
  | some cs, some (.array _ e) => match sz P e with
    | some k => vfill (fun i => some (i * k, k)) cs ps
    | none => none
  | _, _ => none

theorem run_places {P : Program} (w : World) : ∀ (fs : List Field) (pl : List (Nat × Nat)), placesF P fs = some pl → (fs.mapM fun f => (do pure (f.offset, ← sizeOf f.type) : Sem (Nat × Nat))).run P w = .ok pl w
  | [], pl, h => by simp [placesF] at h; subst h; rfl
  | f :: fs, pl, h => by
    unfold placesF at h
    rw [List.mapM_cons] at h
    cases hk : sz P f.type with
    | none => rw [hk] at h; cases h
    | some k =>
      rw [hk] at h
      cases hr : placesF P fs with
      | none => unfold placesF at hr; rw [hr] at h; cases h
      | some pl' =>
        have hr' := hr
        unfold placesF at hr'
        rw [hr'] at h
        have h' : (f.offset, k) :: pl' = pl := by simpa using h
        subst h'
        have := run_places (P := P) w fs pl' hr
        rw [List.mapM_cons]
        simp only [Sem.run_bind, run_sz hk, Result.andThen_ok, Sem.run_pure, this]

theorem parts_rel {β : Bt} {fr : Fr} {a : Act} {parts : Array (Nat × Operand)} (ho : ∀ x ∈ (parts.toList.map (·.2)).toArray, R β (opd fr x) (a.eval x)) :
    ((parts.map fun (i, x) => (i, a.eval x)).toList.map (·.1)) = ((parts.toList.map fun p => (p.1, opd fr p.2)).map (·.1)) ∧ F2 (R β) ((parts.toList.map fun p => (p.1, opd fr p.2)).map (·.2)) ((parts.map fun (i, x) => (i, a.eval x)).toList.map (·.2)) := by
  refine ⟨by simp [Function.comp_def], ?_⟩
  simp only [Array.toList_map, List.map_map]
  exact F2.map _ _ _ fun p hp => ho p.2 (by simp; exact ⟨p.1, by simpa using hp⟩)

section
variable {P : Program} {o : Oper} {fr : Fr} {n : Nat} {σ : Sto}
theorem F2.zero {β : Bt} {z : Value} (h : z.cells.toList.all (·.oneCell') = true) : F2 (R1 β) (z.cells.toList.map V.sc) z.cells.toList := F2.scs β _ h

theorem POp.build {t : TypeId} {parts : Array (Nat × Operand)} {cs : List V} (h : o.op = .build t parts) (hb : buildV P t (parts.toList.map fun p => (p.1, opd fr p.2)) = some cs) : POp P o fr (.agg cs) :=
  fun β a w ho => by
    obtain ⟨k1, k2⟩ := parts_rel (β := β) (fr := fr) (a := a) (parts := parts) (fun x hx => ho x (by rw [h]; exact hx))
    unfold buildV at hb
    split at hb
    · rename_i cs0 fs hz hu
      obtain ⟨z, hzr, rfl, hall⟩ := run_zro (P := P) hz
      split at hb
      · rename_i pl hpl
        obtain ⟨xs', h1, h2⟩ := fill_ok (xs := z.cells) hb (F2.zero hall) k1 k2
        refine ⟨.agg xs', ?_, xs', rfl, h2⟩
        have hm : (fs.mapM fun f => (do pure (f.offset, ← sizeOf f.type) : Sem (Nat × Nat))).run P w = .ok pl.toArray w := by
          rw [Array.mapM_eq_mapM_toList, Sem.run_map, run_places (P := P) w fs.toList pl hpl]; rfl
        have hpl' : (fun (i : Nat) => pl.toArray[i]?) = fun (i : Nat) => pl[i]? := by funext i; simp
        unfold execOp
        rw [h]
        simp only [Instr.build, Sem.run_bind, hzr, Result.andThen_ok, run_underlying hu, hm, hpl', h1, Sem.run_pure]
      · cases hb
    · rename_i cs0 m e hz hu
      obtain ⟨z, hzr, rfl, hall⟩ := run_zro (P := P) hz
      split at hb
      · rename_i k hk
        obtain ⟨xs', h1, h2⟩ := fill_ok (xs := z.cells) hb (F2.zero hall) k1 k2
        refine ⟨.agg xs', ?_, xs', rfl, h2⟩
        unfold execOp
        rw [h]
        simp only [Instr.build, Sem.run_bind, hzr, Result.andThen_ok, run_underlying hu, run_sz hk, h1, Sem.run_pure]
      · cases hb
    · cases hb
end

end Go.Proofs.Ytnklnboglijcbaa.D
