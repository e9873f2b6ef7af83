/- Aggregates and slices are built; what a slice holds; append. Plain Lean over the kit's model; no program. -/
import Derived.Test.YtnklnboglijcbaaE8
import Derived.Deep.AppendSrc
import Derived.Laws.BytesString
namespace Go.Proofs.Ytnklnboglijcbaa.E
open Go Go.RowKit
set_option linter.unusedVariables false

/-! ### aggregates that are built -/
theorem foldl_sets (off : Nat) : ∀ (l : List Value) (k : Nat) (cells : Array Value), off + k + l.length ≤ cells.size →
    ((l.zipIdx k).foldl (fun cs (x : Value × Nat) => cs.setIfInBounds (off + x.2) x.1) cells).toList = cells.toList.take (off + k) ++ l ++ cells.toList.drop (off + k + l.length)
  | [], k, cells, _ => by simp
  | y :: l, k, cells, h => by
    rw [List.zipIdx_cons, List.foldl_cons, foldl_sets off l (k + 1) _ (by simp at h ⊢; omega)]
    simp only [Array.toList_setIfInBounds, List.length_cons] at *
    apply List.ext_getElem?
    intro i
    have hl : (cells.toList).length = cells.size := by simp
    simp only [List.getElem?_append, List.getElem?_take, List.getElem?_drop, List.length_append, List.length_take, List.length_set, List.getElem?_set, List.length_cons, List.getElem?_cons, hl]
    repeat' split
    all_goals first | rfl | (exfalso; omega) | (congr 1; omega) | (simp_all; done) | (simp_all; omega)
def vfill (place : Nat → Option (Nat × Nat)) (cells : List V) : List (Nat × V) → Option (List V)
  | [] => some cells
  | (i, v) :: rest => match place i with
    | none => none
    | some (off, size) => if v.var && Nat.beq v.cells.length size && Nat.ble (off + size) cells.length then vfill place (cells.take off ++ v.cells ++ cells.drop (off + size)) rest else none
theorem fill_ok {β : Bt} {place : Nat → Option (Nat × Nat)} : ∀ {ps : List (Nat × V)} {cells cells' : List V} {xs : Array Value} {qs : List (Nat × Value)}, vfill place cells ps = some cells' → F2 (R1 β) cells xs.toList →
    qs.map (·.1) = ps.map (·.1) → F2 (R β) (ps.map (·.2)) (qs.map (·.2)) → ∃ xs', Instr.fill place xs qs = some xs' ∧ F2 (R1 β) cells' xs'.toList
  | [], cells, cells', xs, qs, h, hf, hq, _ => by
    cases h
    cases qs with
    | nil => exact ⟨xs, rfl, hf⟩
    | cons q qs => simp at hq
  | (i, v) :: ps, cells, cells', xs, qs, h, hf, hq, hv => by
    cases qs with
    | nil => simp at hq
    | cons q qs =>
      obtain ⟨j, x⟩ := q
      simp only [List.map_cons, List.cons.injEq] at hq
      obtain ⟨rfl, hq⟩ := hq
      unfold vfill at h
      split at h
      · cases h
      · rename_i off size hp
        split at h
        · rename_i hc
          simp only [Bool.and_eq_true] at hc
          have hvar := hc.1.1
          have hlen : v.cells.length = size := Nat.eq_of_beq_eq_true hc.1.2
          have hfit : off + size ≤ cells.length := Nat.le_of_ble_eq_true hc.2
          have hx := (hv.1.var hvar).cells
          have hxl : x.cells.size = size := by rw [← hlen, hx.length]; simp
          have hcl : cells.length = xs.size := by rw [hf.length]; simp
          have hset := foldl_sets off x.cells.toList 0 xs (by simp; omega)
          simp only [Nat.add_zero] at hset
          have hset' : (x.cells.zipIdx.foldl (fun cs (c, j) => cs.setIfInBounds (off + j) c) xs).toList = xs.toList.take off ++ x.cells.toList ++ xs.toList.drop (off + x.cells.toList.length) := by
            rw [← hset, ← Array.foldl_toList, Array.toList_zipIdx]
          have hf' : F2 (R1 β) (cells.take off ++ v.cells ++ cells.drop (off + size)) (x.cells.zipIdx.foldl (fun cs (c, j) => cs.setIfInBounds (off + j) c) xs).toList := by
            rw [hset']
            have := ((hf.take off).app hx).app (hf.drop (off + size))
            rwa [show size = x.cells.toList.length from by simpa using hxl.symm] at this ⊢
          obtain ⟨xs', h1, h2⟩ := fill_ok h hf' hq hv.2
          refine ⟨xs', ?_, h2⟩
          unfold Instr.fill
          rw [hp]
          simp only [hxl]
          rw [if_neg (by simp; omega)]
          exact h1
        · cases h
/-- places of a struct's fields. -/
def placesF (P : Program) (fs : List Field) : Option (List (Nat × Nat)) := fs.mapM fun f => (sz P f.type).map fun k => (f.offset, k)
def buildV (P : Program) (t : TypeId) (ps : List (Nat × V)) : Option (List V) :=
  match zro P t, P.underlying t with
  | some cs, some (.struct fs) => match placesF P fs.toList with
    | some pl => vfill (fun i => pl[i]?) cs ps
    | none => none
  | some cs, some (.array _ e) => match sz P e with
    | some k => vfill (fun i => some (i * k, k)) cs ps
    | none => none
  | _, _ => none
theorem run_places {P : Program} (w : World) : ∀ (fs : List Field) (pl : List (Nat × Nat)), placesF P fs = some pl → (fs.mapM fun f => (do pure (f.offset, ← sizeOf f.type) : Sem (Nat × Nat))).run P w = .ok pl w
  | [], pl, h => by simp [placesF] at h; subst h; rfl
  | f :: fs, pl, h => by
    unfold placesF at h
    rw [List.mapM_cons] at h
    cases hk : sz P f.type with
    | none => rw [hk] at h; cases h
    | some k =>
      rw [hk] at h
      cases hr : placesF P fs with
      | none => unfold placesF at hr; rw [hr] at h; cases h
      | some pl' =>
        have hr' := hr
        unfold placesF at hr'
        rw [hr'] at h
        have h' : (f.offset, k) :: pl' = pl := by simpa using h
        subst h'
        have := run_places (P := P) w fs pl' hr
        rw [List.mapM_cons]
        simp only [Sem.run_bind, run_sz hk, Result.andThen_ok, Sem.run_pure, this]
theorem parts_rel {β : Bt} {fr : Fm} {a : Act} {parts : Array (Nat × Operand)} (ho : ∀ x ∈ (parts.toList.map (·.2)).toArray, R β (opd fr x) (a.eval x)) :
    ((parts.map fun (i, x) => (i, a.eval x)).toList.map (·.1)) = ((parts.toList.map fun p => (p.1, opd fr p.2)).map (·.1)) ∧ F2 (R β) ((parts.toList.map fun p => (p.1, opd fr p.2)).map (·.2)) ((parts.map fun (i, x) => (i, a.eval x)).toList.map (·.2)) := by
  refine ⟨by simp [Function.comp_def], ?_⟩
  simp only [Array.toList_map, List.map_map]
  exact F2.map _ _ _ fun p hp => ho p.2 (by simp; exact ⟨p.1, by simpa using hp⟩)

section
variable {P : Program} {ρ : Env} {o : Oper} {fr : Fm} {n : Nat} {σ : Sto}

theorem POp.build {t : TypeId} {parts : Array (Nat × Operand)} {cs : List V} (h : o.op = .build t parts) (hb : buildV P t (parts.toList.map fun p => (p.1, opd fr p.2)) = some cs) : POp P ρ o fr (.agg cs) :=
  fun β a w _ ho => by
    obtain ⟨k1, k2⟩ := parts_rel (β := β) (fr := fr) (a := a) (parts := parts) (fun x hx => ho x (by rw [h]; exact hx))
    unfold buildV at hb
    split at hb
    · rename_i cs0 fs hz hu
      obtain ⟨z, hzr, rfl, hall⟩ := run_zro (P := P) hz
      split at hb
      · rename_i pl hpl
        obtain ⟨xs', h1, h2⟩ := fill_ok (xs := z.cells) hb (F2.ofCs β _ hall) k1 k2
        refine ⟨.agg xs', ?_, xs', rfl, h2⟩
        have hm : (fs.mapM fun f => (do pure (f.offset, ← sizeOf f.type) : Sem (Nat × Nat))).run P w = .ok pl.toArray w := by
          rw [Array.mapM_eq_mapM_toList, Sem.run_map, run_places (P := P) w fs.toList pl hpl]; rfl
        have hpl' : (fun (i : Nat) => pl.toArray[i]?) = fun (i : Nat) => pl[i]? := by funext i; simp
        unfold execOp
        rw [h]
        simp only [Instr.build, Sem.run_bind, hzr, Result.andThen_ok, run_underlying hu, hm, hpl', h1, Sem.run_pure]
      · cases hb
    · rename_i cs0 m e hz hu
      obtain ⟨z, hzr, rfl, hall⟩ := run_zro (P := P) hz
      split at hb
      · rename_i k hk
        obtain ⟨xs', h1, h2⟩ := fill_ok (xs := z.cells) hb (F2.ofCs β _ hall) k1 k2
        refine ⟨.agg xs', ?_, xs', rfl, h2⟩
        unfold execOp
        rw [h]
        simp only [Instr.build, Sem.run_bind, hzr, Result.andThen_ok, run_underlying hu, run_sz hk, h1, Sem.run_pure]
      · cases hb
    · cases hb

/-! ### a slice that is built -/
/-- a row of values: of numbers, where they all are of one kind. -/
def mkRow (cs : List V) : Row := match cs with
  | .int k _ :: _ => if allKind k cs then match intsAll cs with
      | some es => .ints k (colL es)
      | none => .any cs
    else .any cs
  | _ => .any cs
theorem mkRow_ok {β : Bt} {cs : List V} {xs : List Value} (h : F2 (R1 β) cs xs) : RH β (mkRow cs) xs := by
  unfold mkRow
  split
  · split
    · rename_i hk
      split
      · rename_i es he
        obtain ⟨h1, h2⟩ := ints_F2 h hk he
        simp only [RH, Fr, colL_den, h1, List.map_map]
        rfl
      · exact h
    · exact h
  · exact h
def buildS (P : Program) (t : TypeId) (len : Nat) (ps : List (Nat × V)) : Option (TypeId × Nat × List V) :=
  match P.underlying t with
  | some (.slice e) => match sz P e, zro P e with
    | some k, some zc => if Nat.beq zc.length k && Nat.blt 0 k && Nat.ble (len * k) 16777216 then
        match vfill (fun i => some (i * k, k)) ((List.range (len * k)).map fun i => zc.getD (i % k) .und) ps with
        | some cs => some (e, k, cs)
        | none => none
      else none
    | _, _ => none
  | _ => none
theorem vfill_len : ∀ {ps : List (Nat × V)} {place : Nat → Option (Nat × Nat)} {cells cells' : List V}, vfill place cells ps = some cells' → cells'.length = cells.length
  | [], _, _, _, h => by cases h; rfl
  | (i, v) :: ps, place, cells, cells', h => by
    unfold vfill at h
    split at h
    · cases h
    · split at h
      · rename_i off size hp hc
        simp only [Bool.and_eq_true] at hc
        have h1 : v.cells.length = size := Nat.eq_of_beq_eq_true hc.1.2
        have h2 : off + size ≤ cells.length := Nat.le_of_ble_eq_true hc.2
        rw [vfill_len h]; simp; omega
      · cases h
theorem madeRow (β : Bt) {z : Value} {k len : Nat} (hall : z.cells.toList.all (·.oneCell') = true) (hzs : z.cells.size = k) (hpos : 0 < k) (zero : Array Value) (hzero : len * k = 0 ∨ zero = z.cells) :
    F2 (R1 β) ((List.range (len * k)).map fun i => (z.cells.toList.map ofC1).getD (i % k) .und) ((Array.range (len * k)).map (zero[· % zero.size]!)).toList := by
  rw [Array.toList_map, Array.toList_range]
  refine F2.map _ _ _ fun i hi => ?_
  have hi' : i < len * k := by simpa using hi
  have hzero : zero = z.cells := by rcases hzero with h | h; omega; exact h
  have hm : i % k < k := Nat.mod_lt _ hpos
  rw [hzero, hzs]
  have e1 : z.cells[i % k]! = z.cells[i % k]'(by omega) := by rw [getElem!_pos]
  have e2 : (z.cells.toList.map ofC1).getD (i % k) .und = ofC1 (z.cells[i % k]'(by omega)) := by simp [List.getD, hzs, hm]
  rw [e1, e2]
  rw [List.all_eq_true] at hall
  exact (F1.up (F1_ofC1 β.g (hall _ (by simp)))).up
theorem TOp.buildSlice {t : TypeId} {len : Nat} {parts : Array (Nat × Operand)} {e k : Nat} {cs : List V} (h : o.op = .buildSlice t len parts) (hb : buildS P t len (parts.toList.map fun p => (p.1, opd fr p.2)) = some (e, k, cs)) :
    TOp P ρ o fr n σ (.sl n 0 (.lit 0) (.lit (.ofNat len)) k true) (n + 1) (σ.put n ⟨mkRow cs, true, e⟩) := by
  intro β a w K Q hS ho hk
  obtain ⟨k1, k2⟩ := parts_rel (β := β) (fr := fr) (a := a) (parts := parts) (fun x hx => ho x (by rw [h]; exact hx))
  unfold buildS at hb
  split at hb
  · rename_i e' hu
    split at hb
    · rename_i k' zc hkk hz
      split at hb
      · rename_i hc
        simp only [Bool.and_eq_true] at hc
        have hzl : zc.length = k' := Nat.eq_of_beq_eq_true hc.1.1
        have hpos : 0 < k' := Nat.le_of_ble_eq_true hc.1.2
        have hsmall : len * k' ≤ 16777216 := Nat.le_of_ble_eq_true hc.2
        split at hb
        · rename_i cs' hf
          cases hb
          obtain ⟨z, hzr, rfl, hall⟩ := run_zro (P := P) hz
          have hzs : z.cells.size = k := by simpa using hzl
          let zero : Array Value := if len * k = 0 then #[] else z.cells
          have hzero : len * k = 0 ∨ zero = z.cells := by
            by_cases h0 : len * k = 0
            · exact .inl h0
            · exact .inr (by simp only [zero, if_neg h0])
          have hrow := madeRow β hall hzs hpos zero hzero
          obtain ⟨xs', h1, h2⟩ := fill_ok hf hrow k1 k2
          have hlen : cs.length = len * k := by rw [vfill_len hf]; simp
          have hxl : xs'.size = len * k := by rw [← hlen, h2.length]; simp
          obtain ⟨β', _, hn, hS', hst⟩ := new_row hS e (mkRow cs) xs' (mkRow_ok h2) { w with heap := w.heap.push (.cells xs' e) } rfl rfl rfl rfl
          have hml : len ≤ maxLen := by
            unfold maxLen
            have : len * 1 ≤ len * k := Nat.mul_le_mul_left _ hpos
            omega
          refine wp_val (x := .slice (some ⟨w.heap.size, 0, none⟩) len len) (w' := { w with heap := w.heap.push (.cells xs' e) }) ?_ (hk _ β' _ ?_ hS' hst)
          · unfold execOp
            rw [h]
            have hb' : ¬ (len * k > 2 ^ 24) := by omega
            by_cases h0 : len * k = 0
            · have hzz : zero = #[] := by simp only [zero, if_pos h0]
              rw [hzz] at h1
              simp only [Instr.buildSlice, Sem.run_bind, run_underlying hu, Result.andThen_ok, run_sz hkk, if_neg hb', if_pos h0, h1, newRow, run_newObj, Sem.run_pure]
            · have hzz : zero = z.cells := by simp only [zero, if_neg h0]
              rw [hzz] at h1
              simp only [Instr.buildSlice, Sem.run_bind, run_underlying hu, Result.andThen_ok, run_sz hkk, if_neg hb', if_neg h0, hzr, h1, newRow, run_newObj, Sem.run_pure]
          · exact ⟨_, hn, Int.natCast_nonneg len, .inl ⟨_, 0, len, rfl, rfl, .inl (by simp [E.den]), Nat.le_refl _, fun _ => ⟨rfl, rfl, hxl.symm, hml⟩⟩⟩
        · cases hb
      · cases hb
    · cases hb
  · cases hb

/-! ### functions as values -/
def V.cell0 : V → Bool
  | .und | .agg _ | .tup _ | .fn .. => false
  | _ => true
theorem R.cell0 {β : Bt} {v : V} {x : Value} (hv : v.cell0 = true) (hR : R β v x) : R0 β v x := by
  cases v <;> first | (cases hv; done) | exact hR
theorem POp.makeFunc {f : Fn} {first cap : Array Operand} (h : o.op = .makeFunc f first cap) (h1 : (first.toList.map (opd fr)).all V.cell0 = true) (h2 : (cap.toList.map (opd fr)).all V.cell0 = true) : POp P ρ o fr (.fn f (first.toList.map (opd fr)) (cap.toList.map (opd fr))) := fun β a w _ ho => by
  rw [List.all_eq_true] at h1 h2
  refine ⟨.func f (first.map a.eval) (cap.map a.eval), by unfold execOp; rw [h]; rfl, _, _, rfl, ?_, ?_⟩
  · rw [Array.toList_map]
    exact F2.map _ _ _ fun x hx => R.cell0 (h1 _ (List.mem_map.2 ⟨x, hx, rfl⟩)) (ho x (by rw [h]; exact Array.mem_append.2 (.inl (by simpa using hx))))
  · rw [Array.toList_map]
    exact F2.map _ _ _ fun x hx => R.cell0 (h2 _ (List.mem_map.2 ⟨x, hx, rfl⟩)) (ho x (by rw [h]; exact Array.mem_append.2 (.inr (by simpa using hx))))

/-! ### how long -/
def lenV : V → Option E
  | .sl _ _ _ len _ _ => some len
  | .fs z r => r.lenE z
  | .sc (.slice none 0 0) => some (.lit 0)
  | _ => none
theorem R_fs {β : Bt} {z : Nat} {r : Row} {x : Value} (h : R β (.fs z r) x) : F1 (.fs z r) β.g x := h
theorem lenV_ok {β : Bt} {v : V} {x : Value} {e : E} (h : lenV v = some e) (hR : R β v x) : ∃ a m c, x = .slice a m c ∧ e.den β.g.env = m := by
  unfold lenV at h
  split at h
  · rename_i id co off len z top
    cases h
    obtain ⟨q, hq, h0, hc⟩ := (show R0 β (.sl id co off e z top) x from hR)
    rcases hc with ⟨p, d, c, _, rfl, _⟩ | ⟨_, _, _, h5, a, rfl, _⟩
    · exact ⟨_, _, _, rfl, by omega⟩
    · exact ⟨_, _, _, rfl, by omega⟩
  · rename_i z r
    have h1 := R_fs hR
    simp only [F1] at h1
    obtain ⟨xs, m, c, a, rfl, h2, h3, h4, h5⟩ := h1
    obtain ⟨hz0, hn0, hlen⟩ := Row.lenE_ok (RH.ofFr h4) h
    have hm : m = (e.den β.g.env).toNat := Nat.eq_of_mul_eq_mul_right hz0 (h2.trans hlen)
    exact ⟨_, _, _, rfl, by omega⟩
  · cases h
    exact ⟨none, 0, 0, R_sc hR, rfl⟩
  · cases h
theorem POp.lenSl {x : Operand} {t e' : TypeId} {e : E} (h : o.op = .call { callee := .builtin .len, args := #[x], argTypes := #[t] }) (hu : P.underlying t = some (.slice e')) (hx : lenV (opd fr x) = some e) :
    POp P ρ o fr (.int .i64 e) := fun β a w _ ho => by
  have g1 := ho x (by rw [h]; simp [Op.operands, Call.operands])
  obtain ⟨ad, m, c, e1, he⟩ := lenV_ok hx g1
  refine ⟨.int .i64 m, ?_, R.mkInt β .i64 he⟩
  unfold execOp
  rw [h]
  simp [resolve, invoke, builtin, Builtin.len_, run_underlying hu, e1, goInt]
theorem strOf_size (l : List Int) : (strOf l).size = l.length := by simp [strOf, ByteArray.size]
theorem POp.lenStr {x : Operand} {t : TypeId} {l : L} (h : o.op = .call { callee := .builtin .len, args := #[x], argTypes := #[t] }) (hu : P.underlying t = some .string) (hx : opd fr x = .str l) :
    POp P ρ o fr (.int .i64 (mkLen l)) := fun β a w _ ho => by
  have g1 := ho x (by rw [h]; simp [Op.operands, Call.operands])
  rw [hx] at g1
  refine ⟨.int .i64 ((l.den β.g.env).length : Nat), ?_, R.mkInt β .i64 (mkLen_den _ _)⟩
  unfold execOp
  rw [h]
  simp [resolve, invoke, builtin, Builtin.len_, run_underlying hu, R_str g1, goInt, strOf_size]
theorem POp.capNil {x : Operand} {t e' : TypeId} (h : o.op = .call { callee := .builtin .cap, args := #[x], argTypes := #[t] }) (hu : P.underlying t = some (.slice e')) (hx : opd fr x = .sc (.slice none 0 0)) :
    POp P ρ o fr (.int .i64 (.lit 0)) := fun β a w _ ho => by
  have g1 := ho x (by rw [h]; simp [Op.operands, Call.operands])
  rw [hx] at g1
  refine ⟨.int .i64 0, ?_, R.mkInt β .i64 rfl⟩
  unfold execOp
  rw [h]
  simp [resolve, invoke, builtin, Builtin.cap_, run_underlying hu, R_sc g1, goInt]
def mkIte : B → E → E → E
  | .lit true, x, _ => x
  | .lit false, _, y => y
  | b, x, y => if x.same y then x else .ite b x y
theorem mkIte_den (ρ : Env) (b : B) (x y : E) : (mkIte b x y).den ρ = bif b.den ρ then x.den ρ else y.den ρ := by
  unfold mkIte
  split
  · rfl
  · rfl
  · split
    · rename_i h; rw [E.same_ok h]; cases b.den ρ <;> rfl
    · rfl
theorem POp.minmax {mx : Bool} {x y : Operand} {ts : Array TypeId} {k : IntKind} {a b : E} (h : o.op = .call { callee := .builtin (if mx then .max else .min), args := #[x, y], argTypes := ts }) (hx : opd fr x = .int k a) (hy : opd fr y = .int k b) :
    POp P ρ o fr (.int k (if mx then mkIte (mkLt a b) b a else mkIte (mkLt b a) b a)) := fun β ac w _ ho => by
  have g1 := ho x (by rw [h]; cases mx <;> simp [Op.operands, Call.operands])
  have g2 := ho y (by rw [h]; cases mx <;> simp [Op.operands, Call.operands])
  rw [hx] at g1; rw [hy] at g2
  cases mx with
  | true =>
    refine ⟨.int k (if b.den β.g.env > a.den β.g.env then b.den β.g.env else a.den β.g.env), ?_, R.mkInt β k ?_⟩
    · unfold execOp
      rw [h]
      simp [resolve, invoke, builtin, Builtin.max_, R_int g1, R_int g2, Builtin.max2]
    · simp only [if_true, mkIte_den, mkLt_den, ltb_eq]
      by_cases hc : a.den β.g.env < b.den β.g.env <;> simp [hc]
  | false =>
    refine ⟨.int k (if b.den β.g.env < a.den β.g.env then b.den β.g.env else a.den β.g.env), ?_, R.mkInt β k ?_⟩
    · unfold execOp
      rw [h]
      simp [resolve, invoke, builtin, Builtin.min_, R_int g1, R_int g2, Builtin.min2]
    · simp only [Bool.false_eq_true, if_false, mkIte_den, mkLt_den, ltb_eq]
      by_cases hc : b.den β.g.env < a.den β.g.env <;> simp [hc]
end
end Go.Proofs.Ytnklnboglijcbaa.E
