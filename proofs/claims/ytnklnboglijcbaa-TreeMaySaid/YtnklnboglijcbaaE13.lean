/- Make; strings; copy; what is kept for good. Plain Lean over the kit's model; no program. -/
import Derived.Test.YtnklnboglijcbaaE12
namespace Go.Proofs.Ytnklnboglijcbaa.E
open Go Go.RowKit
set_option linter.unusedVariables false

section
variable {P : Program} {ρ : Env} {o : Oper} {fr : Fm} {n : Nat} {σ : Sto}

/-! ### make -/
def repL (len : E) (v : Int) : L := match litE len with
  | some m => if Nat.ble m 512 then litL (List.replicate m v) else .rep len (.lit v)
  | none => .rep len (.lit v)
theorem repL_den (ρ : Env) (len : E) (v : Int) : (repL len v).den ρ = List.replicate (len.den ρ).toNat v := by
  unfold repL
  split
  · rename_i m hm
    obtain rfl := litE_ok hm
    split
    · rw [litL_den]; simp [E.den]
    · simp [L.den, E.den]
  · simp [L.den, E.den]
def zrow (P : Program) (e : TypeId) (len : E) : Option (Nat × Row) := match elOk P e, zro P e with
  | some z, some zc => match zc with
    | [.int k (.lit v)] => some (z, .ints k (repL len v))
    | zc => match litE len with
      | some m => if Nat.ble (m * z) 4096 then some (z, .any ((List.range (m * z)).map fun i => zc.getD (i % z) .und)) else none
      | none => none
  | _, _ => none
theorem zrow_ok {β : Bt} {e : TypeId} {z : Nat} {len : E} {r : Row} (hr : zrow P e len = some (z, r)) (h0 : (mkNot (mkLt len (.lit 0))).den β.g.env = true) (hsm : (smallE len).den β.g.env = true) :
    0 ≤ len.den β.g.env ∧ len.den β.g.env < 1073741824 ∧ ∃ i zv, P.info? e = some i ∧ i.zero = some zv ∧ i.size = z ∧ i.bytes ≤ 131072 ∧ zv.cells.size = z ∧ 0 < z ∧ RH β r (madeCells zv.cells ((len.den β.g.env).toNat * z)).toList := by
  have c0 := nlt_den h0
  simp only [E.den] at c0
  unfold smallE at hsm
  rw [mkLt_den, ltb_eq] at hsm
  have c1 : len.den β.g.env < 1073741824 := of_decide_eq_true hsm
  refine ⟨c0, c1, ?_⟩
  unfold zrow at hr
  split at hr
  · rename_i z' zc hz hzc
    obtain ⟨i, zv, hi, hzv, hsize, hbytes, hzs, hpos⟩ := elOk_ok hz
    have hzc' : zc = zv.cells.toList.map ofC1 ∧ zv.cells.toList.all (·.oneCell') = true := by
      unfold zro at hzc
      rw [hi] at hzc
      simp only [hzv] at hzc
      split at hzc
      · rename_i hall; cases hzc; exact ⟨rfl, hall⟩
      · cases hzc
    have hmade := madeRow (len := (len.den β.g.env).toNat) β hzc'.2 hzs hpos zv.cells (.inr rfl)
    rw [← hzc'.1] at hmade
    split at hr
    · rename_i k v
      cases hr
      refine ⟨i, zv, hi, hzv, hsize, hbytes, hzs, hpos, ?_⟩
      have hz1 : z = 1 := by
        have := congrArg List.length hzc'.1
        simp only [List.length_cons, List.length_nil, List.length_map, Array.length_toList] at this
        omega
      subst hz1
      have hF := F2.of_get (xs := (madeCells zv.cells ((len.den β.g.env).toNat * 1)).toList) (r := R1 β) (as := List.replicate (len.den β.g.env).toNat (.int k (.lit v))) (by simp [madeCells]) (fun j u y hu hy => by
        have hj : j < (len.den β.g.env).toNat := by have := (List.getElem?_eq_some_iff.1 hu).1; simpa using this
        have h2 := hmade.get j (.int k (.lit v)) (by simp [hj, Nat.mod_one])
        obtain ⟨y', hy', hR⟩ := h2
        have : u = .int k (.lit v) := by have := (List.getElem?_eq_some_iff.1 hu).2; rw [← this]; simp
        subst this
        unfold madeCells at hy
        rw [hy'] at hy; cases hy
        exact hR)
      simp only [RH, Fr, repL_den]
      -- all alike
      apply List.ext_getElem?
      intro j
      by_cases hj : j < (len.den β.g.env).toNat
      · obtain ⟨y, hy, hR⟩ := hF.get j (.int k (.lit v)) (by simp [hj])
        rw [hy]
        have : y = .int k v := by simpa only [R1, R0, F1, E.den] using hR
        simp [hj, this]
      · rw [List.getElem?_eq_none (by simp [madeCells]; omega), List.getElem?_eq_none (by simp; omega)]
    · split at hr
      · rename_i m hm
        split at hr
        · cases hr
          obtain rfl := litE_ok hm
          simp only [E.den, Int.ofNat_eq_natCast, Int.toNat_natCast] at hmade ⊢
          exact ⟨i, zv, hi, hzv, hsize, hbytes, hzs, hpos, hmade⟩
        · cases hr
      · cases hr
  · cases hr

theorem TOp.makeSlice {t e : TypeId} {x y : Operand} {k1 k2 : IntKind} {len l2 : E} {z : Nat} {r : Row} (h : o.op = .makeSlice t x y) (hu : P.underlying t = some (.slice e)) (hx : opd fr x = .int k1 len) (hy : opd fr y = .int k2 l2) (hl : l2.den ρ = len.den ρ) (hr : zrow P e len = some (z, r))
    (h0 : (mkNot (mkLt len (.lit 0))).den ρ = true) (hsm : (smallE len).den ρ = true) : TOp P ρ o fr n σ (.sl n 0 (.lit 0) len z true) (n + 1) (σ.put n ⟨r, true, e⟩) := by
  intro β a w K Q hS ho hk
  have hρ := hS.env
  subst hρ
  have g1 := ho x (by rw [h]; simp [Op.operands])
  have g2 := ho y (by rw [h]; simp [Op.operands])
  rw [hx] at g1; rw [hy] at g2
  have e1 := R_int g1
  have e2 := R_int g2
  rw [hl] at e2
  have c0 := nlt_den h0
  simp only [E.den] at c0
  have hsm0 := hsm
  unfold smallE at hsm
  rw [mkLt_den, ltb_eq] at hsm
  have c1 : len.den β.g.env < 1073741824 := of_decide_eq_true hsm
  obtain ⟨_, _, i, zv, hi, hzv, rfl, hbytes, hzs, hpos, hRH⟩ := zrow_ok hr h0 hsm0
  have hb : (i.bytes : Int) * len.den β.g.env ≤ 281474976710656 := by
    have h1 : (i.bytes : Int) * len.den β.g.env ≤ (131072 : Int) * 1073741824 := Int.mul_le_mul (by omega) (by omega) (by omega) (by omega)
    omega
  have hrun := run_make (P := P) w t e i zv hu hi hzv k1 k2 (len.den β.g.env) (len.den β.g.env) c0 (Int.le_refl _) hb (by omega)
  have hsz : (madeCells zv.cells ((len.den β.g.env).toNat * i.size)).size = (len.den β.g.env).toNat * i.size := size_madeCells _ _
  obtain ⟨β', hg', hn, hS', hst⟩ := new_row hS e r _ hRH (w.alloc (.cells (madeCells zv.cells ((len.den β.g.env).toNat * i.size)) e)) rfl rfl rfl rfl
  refine wp_val ?_ (hk (.slice (some ⟨w.heap.size, 0, none⟩) (len.den β.g.env).toNat (len.den β.g.env).toNat) β' _ ?_ hS' hst)
  · unfold execOp; rw [h]; simp only [e1, e2, Sem.run_bind, hrun, Result.andThen_ok, Sem.run_pure]
  · refine ⟨_, hn, by rw [hg']; exact c0, .inl ⟨_, 0, _, rfl, by rw [hg'], .inl (by simp [E.den]), by rw [hg']; exact Nat.le_refl _, fun _ => ⟨rfl, by simp [E.den], hsz.symm, by unfold maxLen; omega⟩⟩⟩

/-- 'append(nil, make([]T, n)...)'. -/
theorem TOp.appendMake {x y : Operand} {t u e : TypeId} {z : Nat} {len : E} {r : Row} {kd ku : IntKind} (h : o.op = .call { callee := .builtin .append, args := #[x, y], argTypes := #[t, u] }) (hu : P.underlying t = some (.slice e)) (hku : P.underlying u = some (.int ku))
    (hx : opd fr x = .sc (.slice none 0 0)) (hy : opd fr y = .int kd len) (hr : zrow P e len = some (z, r)) (h0 : (mkNot (mkLt len (.lit 0))).den ρ = true) (hsm : (smallE len).den ρ = true) :
    TOp P ρ o fr n σ (.sl n 0 (.lit 0) len z true) (n + 1) (σ.put n ⟨r, true, e⟩) := by
  intro β a w K Q hS ho hk
  have hρ := hS.env
  subst hρ
  have g1 := ho x (by rw [h]; simp [Op.operands, Call.operands])
  have g2 := ho y (by rw [h]; simp [Op.operands, Call.operands])
  rw [hx] at g1; rw [hy] at g2
  have e1 := R_sc g1
  have e2 := R_int g2
  obtain ⟨c0, c1, i, zv, hi, hzv, rfl, hbytes, hzs, hpos, hRH⟩ := zrow_ok hr h0 hsm
  obtain ⟨m, hm⟩ := Int.eq_ofNat_of_zero_le c0
  rw [hm] at e2 hRH
  simp only [Int.toNat_natCast] at hRH
  have hm1 : m < 1073741824 := by omega
  have hexec : ∀ {v' : Value} {w' : World}, (Builtin.append_ #[t, u] o.type #[.slice none 0 0, .int kd m]).run P w = .ok v' w' → (execOp a.eval o).run P w = .ok (.value v') w' := by
    intro v' w' hr'
    unfold execOp
    rw [h]
    simp only [resolve, invoke, builtin, Sem.run_bind, Sem.run_pure, Result.andThen_ok, List.map_toArray, List.map_cons, List.map_nil, e1, e2, hr']
  have hw : IntKind.i64.wrap (m : Int) = m := by rw [IntKind.wrap_i64]; omega
  have n1 : ¬ ((m : Int) < 0) := by omega
  have n2 : ¬ (281474976710656 < (m : Int) * i.bytes) := by
    have : (m : Int) * i.bytes ≤ (1073741824 : Int) * 131072 := Int.mul_le_mul (by omega) (by omega) (by omega) (by omega)
    omega
  by_cases hm0 : m = 0
  · subst hm0
    have hrun : (Builtin.append_ #[t, u] o.type #[.slice none 0 0, .int kd ((0 : Nat) : Int)]).run P w = .ok (.slice none 0 0) w := by
      have hw0 : IntKind.i64.wrap 0 = 0 := by rw [IntKind.wrap_i64]; rfl
      simp [Builtin.append_, run_underlying hu, run_underlying hku, sizeOf, typeInfo, hi, asInt, asIntOf, hw0]
    have hRH0 : RH β r [] := by
      have : (madeCells zv.cells (0 * i.size)).toList = [] := by simp [madeCells]
      rw [this] at hRH; exact hRH
    obtain ⟨β', hg', hn, hS', hst⟩ := new_in (w' := w) hS (Sto.le.refl σ) e r none (fun β' hb => (hRH0.mono hb : RH β' r [])) (fun p hp => by cases hp) (Nat.le_refl _) (fun b hb _ => rfl) rfl rfl rfl
    refine wp_val (hexec hrun) (hk _ β' _ ?_ hS' hst)
    exact ⟨_, hn, by rw [hg']; exact c0, .inr ⟨rfl, rfl, by simp [E.den], by rw [hg', hm]; rfl, none, rfl, fun _ h => by cases h⟩⟩
  · have hbig : m * i.bytes ≤ 140737488355328 := by
      have : m * i.bytes ≤ 1073741824 * 131072 := Nat.mul_le_mul (by omega) hbytes
      omega
    have hfit : Builtin.nextslicecap m 0 * i.bytes ≤ 281474976710656 := growslice_fits (by omega) hbig
    let cap := grownCap w m 0 e
    have hge : m ≤ cap := grownCap_ge w m 0 e
    have hcm : cap ≤ maxLen := grownCap_le_maxLen w m 0 e (by unfold maxLen; omega)
    let cells := Builtin.zeroCells zv.cells m ++ Builtin.zeroCells zv.cells (cap - m)
    have hzne : ¬ (m * i.size = 0) := by
      have := Nat.mul_pos (Nat.pos_of_ne_zero hm0) hpos
      omega
    have hrun : (Builtin.append_ #[t, u] o.type #[.slice none 0 0, .int kd (m : Int)]).run P w = .ok (.slice (some ⟨w.heap.size, 0, none⟩) m cap) (w.drew.alloc (.cells cells e)) := by
      have h48 : ¬ (281474976710656 < Builtin.nextslicecap m 0 * i.bytes) := by omega
      have h63 : ¬ ((9223372036854775807 : Int) < (m : Int)) := by omega
      simp [Builtin.append_, run_underlying hu, run_underlying hku, sizeOf, typeInfo, zeroValue, hi, hzv, asInt, asIntOf, hw, n2, hm0, h48, h63, hzne, Question.forced, Builtin.firstCells, newRow, grownCap, cells, cap]
      omega
    have hcl : cells.toList = (madeCells zv.cells (m * i.size)).toList ++ (Builtin.zeroCells zv.cells (cap - m)).toList := by
      simp only [cells, Array.toList_append]
      congr 1
      simp [Builtin.zeroCells, madeCells, hzs]
    have hsz : cells.size = cap * i.size := by
      simp only [cells, Array.size_append, size_zeroCells, hzs, ← Nat.add_mul]
      congr 1
      omega
    obtain ⟨β', hg', hn, hS', hst⟩ := new_in (w' := w.drew.alloc (.cells cells e)) hS (Sto.le.refl σ) e r (some ⟨w.heap.size, cells.size⟩)
      (fun β' hb => ⟨by simp, cells, _, _, (0, 0), heap_alloc_new w.drew _, rfl, hcl, hRH.mono hb, fun _ => rfl, fun h => by cases h⟩)
      (fun p hp => .inl (by cases hp; exact Nat.le_refl _)) (by simp) (fun b hb _ => heap_alloc_old w.drew _ b hb) rfl rfl rfl
    refine wp_val (hexec hrun) (hk _ β' _ ?_ hS' hst)
    refine ⟨_, hn, by rw [hg']; exact c0, .inl ⟨_, 0, cap, rfl, ?_, .inl (by simp [E.den]), by rw [hg', hm]; simpa using hge, fun _ => ⟨rfl, by simp [E.den], hsz.symm, hcm⟩⟩⟩
    rw [hg', hm]; rfl

/-! ### blocks that stay -/
/-- a new block that nobody will write. -/
theorem new_fz {β : Bt} {w w' : World} (hS : Sim ρ n β σ w) (cur : Array Value) (e : TypeId) (f : Nat × Nat) (hat : w'.heap[w.heap.size]? = some (.cells cur e f)) (hsz : w'.heap.size = w.heap.size + 1) (hblk : ∀ b, b < w.heap.size → w'.heap[b]? = w.heap[b]?) (h1 : w'.os = w.os) (h2 : w'.tape = w.tape) (h3 : w'.output = w.output) :
    ∃ β', β.all β' ∧ β'.g.fz w.heap.size = some cur ∧ Sim ρ n β' σ w' ∧ Step n β σ w β' σ w' := by
  let β' : Bt := ⟨{ β.g with fz := fun b => if b = w.heap.size then some cur else β.g.fz b }, β.nm⟩
  have hold : ∀ b cs, β.g.fz b = some cs → b ≠ w.heap.size := fun b cs h => by have := hS.fz_lt h; omega
  have hgle : β.g.le β'.g := ⟨rfl, fun b cs h => by simp only [β']; rw [if_neg (hold b cs h)]; exact h, fun _ _ h => h⟩
  have hall : β.all β' := ⟨hgle, fun _ _ h => h⟩
  have hWr : ∀ b, Wr β' σ b → Wr β σ b := fun b h => h
  refine ⟨β', hall, by simp [β'], ⟨⟨hS.env, fun id ob e1 => ?_, hS.sep, fun b cs h => ?_, fun b c h => ?_⟩, hS.fresh⟩, ⟨⟨hgle, fun _ _ _ h => h⟩, h1, h2, h3, by omega, fun b hb _ _ => hblk b hb, fun b h => .inl h, fun b cs h => ?_, fun b c h => .inl h⟩⟩
  · obtain ⟨q, hq, hok⟩ := hS.ob id ob e1
    exact ⟨q, hq, hok.keep (fun xs h => h.mono hall) hgle.fz (by omega) (fun p hp => by subst hp; exact hblk p.b hok.1)⟩
  · by_cases hb : b = w.heap.size
    · subst hb
      simp only [β', if_true] at h
      cases h
      refine ⟨⟨e, f, hat⟩, fun hc => ?_, ?_⟩
      · have := hS.wr_lt (hWr _ hc); omega
      · cases hk : β.g.kv w.heap.size with
        | none => rfl
        | some c => have := hS.kv_lt hk; omega
    · simp only [β', if_neg hb] at h
      obtain ⟨⟨et, f', k1⟩, k2, k3⟩ := hS.fzs b cs h
      exact ⟨⟨et, f', (hblk b (hS.fz_lt h)).trans k1⟩, k2, k3⟩
  · obtain ⟨⟨ob, k1, k2⟩, k3⟩ := hS.kvs b c h
    exact ⟨⟨ob, (hblk b (hS.kv_lt h)).trans k1, k2⟩, k3⟩
  · by_cases hb : b = w.heap.size
    · right; right; omega
    · simp only [β', if_neg hb] at h; exact .inl h

theorem TOp.strBytes {s d e : TypeId} {x : Operand} {l : L} (h : o.op = .convert s d x) (hx : opd fr x = .str l) (hs : P.underlying s = some .string) (hd : P.underlying d = some (.slice e)) (he : P.underlying e = some (.int .u8)) : TOp P ρ o fr n σ (.fs 1 (.ints .u8 (mkByt l))) n σ := by
  intro β a w K Q hS ho hk
  have hρ := hS.env
  have g1 := ho x (by rw [h]; simp [Op.operands])
  rw [hx] at g1
  have e1 := R_str g1
  generalize hstr : strOf (l.den β.g.env) = str at e1
  let cap := grownCap w str.size 0 e
  have hge : str.size ≤ cap := grownCap_ge w str.size 0 e
  let cells : Array Value := (str.data.map fun b => Value.int .u8 b.toNat) ++ Array.replicate (cap - str.size) (.int .u8 0)
  let w' : World := { w.drew with heap := w.heap.push (.cells cells e (cells.size, cells.size + 1)) }
  have hrun : (convert s d (.string str)).run P w = .ok (.slice (some ⟨w.heap.size, 0, none⟩) str.size cap) w' := by
    have hc : ∀ w0 : World, w0.heap = w.heap → (⟨w.heap.size, 0, none⟩ : Addr).block = w.heap.size := fun _ _ => rfl
    simp only [convert, Sem.run_bind, run_underlying hs, run_underlying hd, run_underlying he, Result.andThen_ok, Conv.stringToBytes]
    have h1 : (choose (.appendCap str.size 0 e)).run P w = .ok cap w.drew := by
      rfl
    simp only [h1, Result.andThen_ok]
    have h2 : (newRow e cells).run P w.drew = .ok ⟨w.heap.size, 0, none⟩ { w.drew with heap := w.heap.push (.cells cells e) } := by
      rfl
    have hcells : (str.data.map fun b => Value.int .u8 b.toNat) ++ Array.replicate (cap - str.size) (.int .u8 0) = cells := rfl
    simp only [hcells, h2, Result.andThen_ok]
    have h3 : (markStringish ⟨w.heap.size, 0, none⟩).run P { w.drew with heap := w.heap.push (.cells cells e) } = .ok () w' := by
      simp only [markStringish, Sem.run_bind]
      have h4 : (shape w.heap.size).run P { w.drew with heap := w.heap.push (.cells cells e) } = .ok (some (e, cells.size)) { w.drew with heap := w.heap.push (.cells cells e) } := by
        simp only [shape, Sem.run]
        simp [World.shape?]
      simp only [h4, Result.andThen_ok]
      simp only [freeze, Sem.run, World.freeze]
      rw [if_neg (by simp)]
      have hm : ((w.heap.push (Obj.cells cells e)).modify w.heap.size fun x => match x with
          | Obj.cells c elem (lo, hi) => Obj.cells c elem (if lo == hi then (cells.size, cells.size + 1) else (min lo cells.size, max hi (cells.size + 1)))
          | o => o) = w.heap.push (Obj.cells cells e (cells.size, cells.size + 1)) := by
        apply Array.ext
        · simp
        · intro j h1 h2
          rw [Array.getElem_modify]
          by_cases hj : w.heap.size = j
          · subst hj; simp
          · have hj' : j < w.heap.size := by simp at h2; omega
            rw [if_neg hj, Array.getElem_push_lt hj', Array.getElem_push_lt hj']
      exact congrArg (fun hp => Result.ok () { w.drew with heap := hp }) hm
    simp only [h3, Result.andThen_ok, Sem.run_pure]
  obtain ⟨β', hall, hfz, hS', hst⟩ := new_fz (w' := w') hS cells e (cells.size, cells.size + 1) (by simp [w']) (by simp [w']) (fun b hb => by simp only [w']; rw [Array.getElem?_push, if_neg (by omega)]) rfl rfl rfl
  refine wp_val (x := .slice (some ⟨w.heap.size, 0, none⟩) str.size cap) (w' := w') ?_ (hk _ β' w' ?_ hS' hst)
  · unfold execOp; rw [h]; simp only [e1, Sem.run_bind, hrun, Result.andThen_ok, Sem.run_pure]
  · show F1 (.fs 1 (.ints .u8 (mkByt l))) β'.g _
    simp only [F1]
    have hb : byteCells str = ((l.den β.g.env).map byte).map (Value.int .u8) := by rw [← hstr]; exact byteCells_strOf _
    refine ⟨byteCells str, _, _, _, rfl, by rw [byteCells_length]; omega, hge, ?_, .inr ⟨_, _, rfl, .inr ⟨cells, hfz, ?_⟩⟩⟩
    · simp only [Fr, mkByt_den, hall.g.env]; exact hb
    · rw [List.drop_zero]
      simp only [cells, Array.toList_append, Array.toList_map]
      exact List.take_left

theorem foldl_push (ns : List Int) : ns.foldl (fun r n => r.push (UInt8.ofNat n.toNat)) ByteArray.empty = strOf ns := by
  have key : ∀ (ns : List Int) (r : ByteArray), (ns.foldl (fun r n => r.push (UInt8.ofNat n.toNat)) r).data.toList = r.data.toList ++ ns.map fun n => UInt8.ofNat n.toNat := by
    intro ns
    induction ns with
    | nil => intro r; simp
    | cons n ns ih =>
      intro r
      rw [List.foldl_cons, ih]
      have : (r.push (UInt8.ofNat n.toNat)).data.toList = r.data.toList ++ [UInt8.ofNat n.toNat] := by
        show (r.data.push _).toList = _
        simp
      rw [this]; simp
  have := key ns ByteArray.empty
  apply bytes_inj'
  rw [this]
  have : (ByteArray.empty).data.toList = [] := rfl
  rw [this]; simp [strOf]
where
  bytes_inj' {a b : ByteArray} (h : a.data.toList = b.data.toList) : a = b := by
    cases a; cases b; simp only [ByteArray.mk.injEq]; exact Array.ext' h

theorem TOp.bytesStr {s d e : TypeId} {x : Operand} {r : Row} {len : E} {bs : List B} {l : L} (h : o.op = .convert s d x) (hs : P.underlying s = some (.slice e)) (hd : P.underlying d = some .string) (he : P.underlying e = some (.int .u8))
    (hx : srcOf σ 1 (opd fr x) = some (r, len, bs)) (hv : (lenV (opd fr x)).isSome = true) (hb : ∀ b ∈ bs, b.den ρ = true) (hr : r.asInts .u8 = some l) : TOp P ρ o fr n σ (.str l) n σ :=
  TOp.still fun β a w hS ho => by
    have g1 := ho x (by rw [h]; simp [Op.operands])
    obtain ⟨m, news, hsrc, hm, hRH⟩ := src_ok (P := P) (tx := s) hS g1 hx hb (.inl ⟨e, hs⟩)
    have hn := Row.asInts_ok hRH hr
    obtain ⟨le, hle⟩ := Option.isSome_iff_exists.1 hv
    obtain ⟨ad, m', c, e1, _⟩ := lenV_ok hle g1
    have hm' : m' = m := by
      have := hsrc.len w
      rw [e1] at this
      simpa [Builtin.lenOf] using this
    subst hm'
    refine ⟨.string (strOf (l.den β.g.env)), ?_, R.mkStr β rfl⟩
    have hcells := hsrc.cells
    rw [e1] at hcells
    have hrun : (Conv.bytesToString (.slice ad m' c)).run P w = .ok (.string (strOf (l.den β.g.env))) w := by
      cases ad with
      | none =>
        simp only [Builtin.firstCells, Sem.run_pure] at hcells
        have h0 : news.toArray = #[] := by cases hcells; rfl
        have h1 : news = [] := by simpa using h0
        have h2 : l.den β.g.env = [] := by rw [h1] at hn; simpa using hn.symm
        simp only [Conv.bytesToString, Sem.run_pure, h2]
        rfl
      | some ad =>
        simp only [Builtin.firstCells, Nat.mul_one] at hcells
        rw [hn] at hcells
        rw [run_bytesToString w ad m' c _ hcells, foldl_push]
    unfold execOp
    rw [h]
    simp [convert, run_underlying hs, run_underlying hd, run_underlying he, e1, hrun]

/-- 's[:0:0]': no room. -/
theorem TOp.cap0 {t e : TypeId} {x : Operand} {lo hi mx : Option Operand} {z : Nat} {len : E} (h : o.op = .slice t x lo hi mx) (hu : P.underlying t = some (.slice e)) (hz : sz P e = some z) (hx : lenV (opd fr x) = some len)
    (hlo : boundE fr (.lit 0) lo = some (.lit (.ofNat 0))) (hhi : ∃ y k, hi = some y ∧ opd fr y = .int k (.lit (.ofNat 0))) (hmx : ∃ y k, mx = some y ∧ opd fr y = .int k (.lit (.ofNat 0))) :
    TOp P ρ o fr n σ (.sl n 0 (.lit 0) (.lit 0) z true) (n + 1) (σ.put n ⟨.any [], true, e⟩) := by
  intro β a w K Q hS ho hk
  have g1 := ho x (by rw [h]; simp [Op.operands])
  obtain ⟨ad, m, c, e1, _⟩ := lenV_ok hx g1
  have hsp : ∀ a', ad = some a' → a'.spot = none := by
    rintro a' rfl
    unfold lenV at hx
    split at hx
    · rename_i id co off len' z' top hv
      rw [hv] at g1
      obtain ⟨q, hq, h0, hc⟩ := (show R0 β (.sl id co off len' z' top) _ from g1)
      rcases hc with ⟨p, d, c', _, e2, _⟩ | ⟨_, _, _, _, ad', e2, hs⟩
      · rw [e1] at e2; cases e2; rfl
      · rw [e1] at e2; cases e2; exact hs _ rfl
    · rename_i z' r hv
      rw [hv] at g1
      have h1 := R_fs g1
      simp only [F1] at h1
      obtain ⟨xs, m', c', ad', e2, _, _, _, h5⟩ := h1
      rw [e1] at e2; cases e2
      rcases h5 with ⟨h, _⟩ | ⟨b, d, h, _⟩
      · cases h
      · cases h; rfl
    · rename_i hv
      rw [hv] at g1
      have := R_sc g1
      rw [e1] at this; cases this
    · cases hx
  obtain ⟨yh, kh, rfl, hyh⟩ := hhi
  obtain ⟨ym, km, rfl, hym⟩ := hmx
  have eh : a.eval yh = .int kh 0 := by have := ho yh (by rw [h]; simp [Op.operands]); rw [hyh] at this; exact R_int this
  have em : a.eval ym = .int km 0 := by have := ho ym (by rw [h]; simp [Op.operands]); rw [hym] at this; exact R_int this
  have hrun : (Instr.sliceAt t (.slice ad m c) (lo.map a.eval) (some (a.eval yh)) (some (a.eval ym))).run P w = .ok (.slice ad 0 0) w := by
    cases lo with
    | none => simp [Instr.sliceAt, run_underlying hu, Instr.slice, Instr.sliceBounds, Instr.sliceBound, eh, em, asIntOf, run_sz hz]
    | some y =>
      have ey : ∃ k, a.eval y = .int k 0 := by
        have := ho y (by rw [h]; simp [Op.operands])
        simp only [boundE] at hlo
        split at hlo
        · rename_i k e' he; cases hlo; rw [he] at this; exact ⟨k, R_int this⟩
        · cases hlo
      obtain ⟨k, ey⟩ := ey
      simp [Instr.sliceAt, run_underlying hu, Instr.slice, Instr.sliceBounds, Instr.sliceBound, eh, em, ey, asIntOf, run_sz hz]
  obtain ⟨β', hg', hn, hS', hst⟩ := new_in (w' := w) hS (Sto.le.refl σ) e (.any []) none (fun β' hb => (trivial : F2 (R1 β') [] [])) (fun p hp => by cases hp) (Nat.le_refl _) (fun b hb _ => rfl) rfl rfl rfl
  refine wp_val (x := .slice ad 0 0) ?_ (hk _ β' _ ⟨_, hn, Int.le_refl _, .inr ⟨rfl, rfl, rfl, rfl, ad, rfl, hsp⟩⟩ hS' hst)
  unfold execOp; rw [h]
  simp only [e1, Option.map_some, Sem.run_bind, hrun, Result.andThen_ok, Sem.run_pure]
/-! ### copy -/
/-- cells of an array, the first ones out of a row. -/
def copyCells (k : IntKind) (l : L) (len : E) : Nat → List V → Option (List V)
  | _, [] => some []
  | j, .int k' e :: r => if k = k' then match copyCells k l len (j + 1) r with
      | some r' => some (.int k (mkIte (mkLt (.lit (.ofNat j)) len) (mkGet l (.lit (.ofNat j))) e) :: r')
      | none => none
    else none
  | _, _ => none
theorem copyCells_ok {β : Bt} {k : IntKind} {l : L} {len : E} (hl : len.den β.g.env = ((l.den β.g.env).length : Nat)) : ∀ {j : Nat} {cs ds : List V} {xs : List Value}, copyCells k l len j cs = some ds → F2 (R1 β) cs xs →
    F2 (R1 β) ds (((l.den β.g.env).drop j).map (Value.int k) ++ xs.drop ((l.den β.g.env).length - j) |>.take xs.length)
  | j, [], ds, xs, h, hF => by
    unfold copyCells at h; cases h
    cases xs with
    | nil => simp [F2]
    | cons => exact hF.elim
  | j, c :: cs, ds, xs, h, hF => by
    cases xs with
    | nil => exact hF.elim
    | cons x xs =>
      unfold copyCells at h
      split at h
      · cases h; contradiction
      · rename_i j _ _ k' e r he
        cases he
        split at h
        · rename_i hk
          subst hk
          split at h
          · rename_i r' hr
            cases h
            have ih := copyCells_ok hl hr hF.2
            have hx : x = .int k (e.den β.g.env) := by have := hF.1; simpa only [R1, R0, F1] using this
            by_cases hj : j < (l.den β.g.env).length
            · have e1 : (l.den β.g.env).drop j = (l.den β.g.env)[j] :: (l.den β.g.env).drop (j + 1) := List.drop_eq_getElem_cons hj
              have e2 : (x :: xs).drop ((l.den β.g.env).length - j) = xs.drop ((l.den β.g.env).length - (j + 1)) := by
                rw [show (l.den β.g.env).length - j = ((l.den β.g.env).length - (j + 1)) + 1 by omega]; rfl
              rw [e1, e2]
              simp only [List.map_cons, List.cons_append, List.length_cons, List.take_succ_cons]
              refine ⟨?_, ih⟩
              show F1 (.int k _) β.g _
              simp only [F1, mkIte_den, mkLt_den, ltb_eq, hl, E.den, mkGet_den, Int.ofNat_eq_natCast, Int.toNat_natCast]
              have : ((j : Nat) : Int) < ((l.den β.g.env).length : Nat) := by omega
              simp [this, List.getD, hj]
            · have e1 : (l.den β.g.env).drop j = [] := List.drop_eq_nil_of_le (by omega)
              have e3 : (l.den β.g.env).drop (j + 1) = [] := List.drop_eq_nil_of_le (by omega)
              have e2 : (l.den β.g.env).length - j = 0 := by omega
              have e4 : (l.den β.g.env).length - (j + 1) = 0 := by omega
              rw [e3, e4] at ih
              rw [e1, e2]
              simp only [List.map_nil, List.nil_append, List.drop_zero, List.take_length] at ih ⊢
              refine ⟨?_, ih⟩
              show F1 (.int k _) β.g _
              simp only [F1, mkIte_den, mkLt_den, ltb_eq, hl, E.den, Int.ofNat_eq_natCast]
              have : ¬ ((j : Nat) : Int) < ((l.den β.g.env).length : Nat) := by omega
              simp [this, hx]
          · cases h
        · cases h
      · cases h
theorem TOp.copy {x y : Operand} {t u e : TypeId} {id co a0 m : Nat} {top : Bool} {ob : Ob} {cs ds : List V} {r : Row} {len : E} {l : L} {k : IntKind} {bs : List B} (h : o.op = .call { callee := .builtin .copy, args := #[x, y], argTypes := #[t, u] }) (hu : P.underlying t = some (.slice e)) (hz : sz P e = some 1)
    (hku : (∃ e', P.underlying u = some (.slice e')) ∨ P.underlying u = some .string) (hx : opd fr x = .sl id co (.lit (.ofNat a0)) (.lit (.ofNat m)) 1 top) (hob : σ id = some ob) (hrw : ob.rw = true) (hrow : ob.row = .any cs) (hfit : co + a0 + m ≤ cs.length)
    (hy : srcOf σ 1 (opd fr y) = some (r, len, bs)) (hb : ∀ b ∈ bs, b.den ρ = true) (hl : r.asInts k = some l) (hle : (mkNot (mkLt (.lit (.ofNat m)) len)).den ρ = true) (hd : copyCells k l len 0 ((cs.drop (co + a0)).take m) = some ds) :
    TOp P ρ o fr n σ (.int .i64 len) n (σ.put id ⟨.any (splice cs (co + a0) ds), true, ob.e⟩) := by
  intro β a w K Q hS ho hk
  have hρ := hS.env
  subst hρ
  have g1 := ho x (by rw [h]; simp [Op.operands, Call.operands])
  have g2 := ho y (by rw [h]; simp [Op.operands, Call.operands])
  rw [hx] at g1
  obtain ⟨ms, news, hsrc, hm, hRH2⟩ := src_ok (P := P) hS g2 hy hb hku
  have hn := Row.asInts_ok hRH2 hl
  have hnl : news.length = ms := by have := hsrc.newsLen; omega
  have hll : (l.den β.g.env).length = ms := by rw [← hnl, hn]; simp
  have hms : ms ≤ m := by
    have := nlt_den hle
    rw [hm] at this
    simp only [E.den, Int.ofNat_eq_natCast] at this
    omega
  obtain ⟨q, hq, hl0, hcase⟩ := (show R0 β (.sl id co (.lit (.ofNat a0)) (.lit (.ofNat m)) 1 top) (a.eval x) from g1)
  obtain ⟨q0, hq0, hok⟩ := hS.ob id ob hob
  obtain rfl : q0 = q := Option.some.inj (hq0.symm.trans hq)
  have hexec : ∀ {ad : Option Addr} {c : Nat} {w' : World}, a.eval x = .slice ad m c → (Builtin.copy_ #[t, u] o.type #[.slice ad m c, a.eval y]).run P w = .ok (.int .i64 (ms : Nat)) w' → (execOp a.eval o).run P w = .ok (.value (.int .i64 (ms : Nat))) w' := by
    intro ad c w' e1 hr'
    unfold execOp
    rw [h]
    simp only [resolve, invoke, builtin, Sem.run_bind, Sem.run_pure, Result.andThen_ok, List.map_toArray, List.map_cons, List.map_nil, e1, hr']
  have hmin : Nat.min ms m = ms := Nat.min_eq_left hms
  have hmin' : min ms m = ms := Nat.min_eq_left hms
  rcases hcase with ⟨p, d, c, rfl, e1, hd', hlc, htop⟩ | ⟨rfl, hc0, hof, hle0, ad, e1, hsp⟩
  · obtain ⟨hlt, cur, xs, rest, fz, hg, hsz, hcur, hRH, hfz, _⟩ := hok
    obtain rfl := hfz hrw
    rw [hrow] at hRH
    have hF : F2 (R1 β) cs xs := hRH
    have hxl := hF.length
    simp only [E.den, Int.ofNat_eq_natCast, Int.toNat_natCast] at e1 hd' hlc
    have hseg := (hF.drop (co + a0)).take m
    have hnew := copyCells_ok (by rw [hm, hll]) hd hseg
    rw [List.drop_zero, ← hn, Nat.sub_zero, hll] at hnew
    generalize hold : (xs.drop (co + a0)).take m = old at *
    have holdl : old.length = m := by rw [← hold]; simp; omega
    have hys : (news ++ old.drop ms).take old.length = news ++ old.drop ms := List.take_of_length_le (by simp; omega)
    rw [hys] at hnew
    have hdl := hnew.length
    have hd2 : d = co + a0 ∨ ms = 0 := by rcases hd' with h | ⟨h, _⟩; left; omega; right; omega
    -- the store
    have hcs := run_storeCells_at P p.b (co + a0) ob.e news 0 cur w hg (by have := congrArg List.length hcur; simp at this; omega) hsrc.one
    simp only [Nat.add_zero] at hcs
    generalize hcur' : cur.toList.take (co + a0) ++ news ++ cur.toList.drop (co + a0 + news.length) = cur' at hcs
    have hspl : cur' = splice xs (co + a0) (news ++ old.drop ms) ++ rest := by
      rw [← hcur', hcur]
      unfold splice
      rw [List.take_append_of_le_length (by omega), List.drop_append_of_le_length (by omega)]
      have e2 : (news ++ old.drop ms).length = m := by simp; omega
      rw [e2]
      have e3 : xs.drop (co + a0 + news.length) = old.drop ms ++ xs.drop (co + a0 + m) := by
        rw [← hold, hnl, List.drop_take, List.drop_drop]
        have : xs.drop (co + a0 + m) = (xs.drop (co + a0 + ms)).drop (m - ms) := by rw [List.drop_drop]; congr 1; omega
        rw [this, List.take_append_drop]
      rw [e3]; simp
    have hcl : cur'.length = cur.size := by rw [← hcur']; have := congrArg List.length hcur; simp at this ⊢; omega
    obtain ⟨hS', hst⟩ := same_row (w' := w.setRow p.b cur'.toArray) hS hob hrw hq (.any (splice cs (co + a0) ds)) cur'.toArray (splice xs (co + a0) (news ++ old.drop ms)) rest (setRow_heap w p.b cur _ ob.e _ hg) (by simp [hcl, hsz]) (by simp [hspl])
      (hF.splice hnew (co + a0)) (by simp) (fun k hk => setRow_other w p.b k _ hk) rfl rfl rfl
    refine wp_val (hexec e1 ?_) (hk _ β _ (R.mkInt β .i64 hm) hS' hst)
    rcases hd2 with rfl | h0
    · simp only [Builtin.copy_, Sem.run_bind, run_underlying hu, Result.andThen_ok, hsrc.len, hmin, run_sz hz, hsrc.cells, hcs, Sem.run_pure, goInt, List.getElem?_toArray, List.getElem?_cons_zero, List.getElem?_cons_succ]
    · have hn0 : news = [] := List.eq_nil_of_length_eq_zero (by omega)
      have hself : w.setRow p.b cur'.toArray = w := by
        have : cur' = cur.toList := by rw [← hcur', hn0]; simp
        rw [this]; simpa using setRow_self w p.b cur ob.e (0, 0) hg
      rw [hself]
      have hcells := hsrc.cells
      rw [hn0] at hcells
      simp [Builtin.copy_, run_underlying hu, hsrc.len, hmin', run_sz hz, hcells, storeCells, goInt]
  · have hm0 : m = 0 := by simpa [E.den] using hle0
    have hms0 : ms = 0 := by omega
    have hn0 : news = [] := List.eq_nil_of_length_eq_zero (by omega)
    have hcs0 : cs = [] := by
      have hRH : RH β ob.row [] := hok
      rw [hrow] at hRH
      have hF : F2 (R1 β) cs [] := hRH
      cases cs with
      | nil => rfl
      | cons => exact hF.elim
    subst hcs0
    have hds : ds = [] := by
      simp only [List.drop_nil, List.take_nil, copyCells] at hd; cases hd; rfl
    subst hds
    have hsame : σ.put id ⟨.any (splice [] (co + a0) []), true, ob.e⟩ = σ := by
      funext j
      unfold Sto.put
      split
      · rename_i hj; subst hj
        rw [hob]
        cases ob with
        | mk row rw0 e0 =>
          simp only at hrow hrw
          subst hrow; subst hrw
          simp [splice]
      · rfl
    rw [hsame] at hk
    have hcells := hsrc.cells
    rw [hn0] at hcells
    have e2 : (E.den β.g.env (.lit (.ofNat m))).toNat = m := by simp [E.den]
    refine wp_val (hexec (ad := ad) (c := 0) (by rw [e1, hm0]) ?_) (hk _ β _ (R.mkInt β .i64 hm) hS Step.refl)
    cases ad <;> simp [Builtin.copy_, run_underlying hu, hsrc.len, hmin', run_sz hz, hcells, storeCells, goInt]
end
end Go.Proofs.Ytnklnboglijcbaa.E
