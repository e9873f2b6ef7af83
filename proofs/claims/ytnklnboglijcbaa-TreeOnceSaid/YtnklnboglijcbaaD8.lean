/- Slices: made, cut, measured, appended to. Plain Lean over the kit's model; no program. -/
import Derived.Test.YtnklnboglijcbaaD4
import Derived.Laws.Cover3
import Derived.Laws.Pointers
namespace Go.Proofs.Ytnklnboglijcbaa.D
open Go Go.RowKit
set_option linter.unusedVariables false

section
variable {P : Program} {o : Oper} {fr : Fr} {n : Nat} {σ : Sto}

theorem POp.lenSl {x : Operand} {t : TypeId} {e : TypeId} {id off len z : Nat} {top : Bool} {cap : Option Nat} (h : o.op = .call { callee := .builtin .len, args := #[x], argTypes := #[t] }) (hu : P.underlying t = some (.slice e)) (hx : opd fr x = .sl id off len z top cap) :
    POp P o fr (.sc (.int .i64 len)) := fun β a w ho => by
  have g1 := ho x (by rw [h]; simp [Op.operands, Call.operands])
  rw [hx] at g1
  obtain ⟨p, c, hp, d', e', _⟩ := (show R0 β (.sl id off len z top cap) (a.eval x) from g1)
  refine ⟨.int .i64 len, ?_, rfl, rfl⟩
  unfold execOp
  rw [h]
  simp [resolve, invoke, builtin, Builtin.len_, run_underlying hu, e', goInt]

/-- a slice against nil. -/
theorem POp.eqNil {x y : Operand} {t u : TypeId} {ne : Bool} {id off len z : Nat} {top : Bool} {cap : Option Nat} (h : o.op = .binOp (if ne then .neq else .eql) t x y u) (hx : opd fr x = .sl id off len z top cap) (hy : opd fr y = .sc (.slice none 0 0)) {e : TypeId} (hu : P.underlying t = some (.slice e)) :
    POp P o fr (.sc (.bool ne)) := fun β a w ho => by
  have g1 := ho x (by rw [h]; simp [Op.operands])
  have g2 := ho y (by rw [h]; simp [Op.operands])
  rw [hx] at g1; rw [hy] at g2
  have g2' : a.eval y = .slice none 0 0 := g2.1
  obtain ⟨p, c, hp, d', e', _⟩ := (show R0 β (.sl id off len z top cap) (a.eval x) from g1)
  have hq : (Op.equal t (.slice (some ⟨p.b, d', none⟩) len c) (.slice none 0 0)).run P w = .ok false w := by rw [run_equal_slice_nil w t e _ _ _ hu]; rfl
  refine ⟨.bool ne, ?_, rfl, rfl⟩
  unfold execOp
  rw [h]
  cases ne
  · have hg : (eqGuard .eql t x y (.slice (some ⟨p.b, d', none⟩) len c) (.slice none 0 0)).run P w = .ok () w := rfl
    simp only [e', g2', Bool.false_eq_true, if_false, Sem.run_bind, hg, Result.andThen_ok]
    simp only [binOp, Sem.run_bind, hq, Result.andThen_ok, Sem.run_pure]
  · have hg : (eqGuard .neq t x y (.slice (some ⟨p.b, d', none⟩) len c) (.slice none 0 0)).run P w = .ok () w := rfl
    simp only [e', g2', if_true, Sem.run_bind, hg, Result.andThen_ok]
    simp only [binOp, Sem.run_bind, hq, Result.andThen_ok, Sem.run_pure, Bool.not_false]

/-- a pointer against nil. -/
theorem POp.eqNilP {x y : Operand} {t u : TypeId} {ne : Bool} {id off : Nat} (h : o.op = .binOp (if ne then .neq else .eql) t x y u) (hx : opd fr x = .ptr id off) (hy : opd fr y = .sc (.pointer none)) (hu : P.underlying t = some (.pointer (P.pointee t))) :
    POp P o fr (.sc (.bool ne)) := fun β a w ho => by
  have g1 := ho x (by rw [h]; simp [Op.operands])
  have g2 := ho y (by rw [h]; simp [Op.operands])
  rw [hx] at g1; rw [hy] at g2
  have g2' : a.eval y = .pointer none := g2.1
  obtain ⟨ad, e', hat⟩ := (show R0 β (.ptr id off) (a.eval x) from g1)
  have hq : (Op.equal t (.pointer (some ad)) (.pointer none)).run P w = .ok false w := by rw [run_equal_pointer_nil w t _ hu]; rfl
  refine ⟨.bool ne, ?_, rfl, rfl⟩
  unfold execOp
  rw [h]
  cases ne
  · have hg : (eqGuard .eql t x y (.pointer (some ad)) (.pointer none)).run P w = .ok () w := rfl
    simp only [e', g2', Bool.false_eq_true, if_false, Sem.run_bind, hg, Result.andThen_ok]
    simp only [binOp, Sem.run_bind, hq, Result.andThen_ok, Sem.run_pure]
  · have hg : (eqGuard .neq t x y (.pointer (some ad)) (.pointer none)).run P w = .ok () w := rfl
    simp only [e', g2', if_true, Sem.run_bind, hg, Result.andThen_ok]
    simp only [binOp, Sem.run_bind, hq, Result.andThen_ok, Sem.run_pure, Bool.not_false]

/-- a value of one cell that is no function. -/
def V.bare0 : V → Bool
  | .sc x => x.oneCell'
  | .ptr .. => true
  | .sl .. => true
  | _ => false
theorem R.bare0 {β : Bt} {v : V} {x : Value} (hv : v.bare0 = true) (hR : R β v x) : R0 β v x := by
  cases v <;> first | (cases hv; done) | exact hR

theorem POp.makeFunc {f : Fn} {first cap : Array Operand} (h : o.op = .makeFunc f first cap) (h1 : (first.toList.map (opd fr)).all V.bare0 = true) (h2 : (cap.toList.map (opd fr)).all V.bare0 = true) : POp P o fr (.fn f (first.toList.map (opd fr)) (cap.toList.map (opd fr))) := fun β a w ho => by
  rw [List.all_eq_true] at h1 h2
  refine ⟨.func f (first.map a.eval) (cap.map a.eval), by unfold execOp; rw [h]; rfl, _, _, rfl, ?_, ?_⟩
  · rw [Array.toList_map]
    exact F2.map _ _ _ fun x hx => R.bare0 (h1 _ (List.mem_map.2 ⟨x, hx, rfl⟩)) (ho x (by rw [h]; exact Array.mem_append.2 (.inl (by simpa using hx))))
  · rw [Array.toList_map]
    exact F2.map _ _ _ fun x hx => R.bare0 (h2 _ (List.mem_map.2 ⟨x, hx, rfl⟩)) (ho x (by rw [h]; exact Array.mem_append.2 (.inr (by simpa using hx))))

/-! ### a slice that is built -/
def buildS (P : Program) (t : TypeId) (len : Nat) (ps : List (Nat × V)) : Option (TypeId × Nat × List V) :=
  match P.underlying t with
  | some (.slice e) => match sz P e, zro P e with
    | some k, some zc => if Nat.beq zc.length k && Nat.blt 0 k && Nat.ble (len * k) 16777216 then
        match vfill (fun i => some (i * k, k)) ((List.range (len * k)).map fun i => zc.getD (i % k) .und) ps with
        | some cs => some (e, k, cs)
        | none => none
      else none
    | _, _ => none
  | _ => none

theorem vfill_len : ∀ {ps : List (Nat × V)} {place : Nat → Option (Nat × Nat)} {cells cells' : List V}, vfill place cells ps = some cells' → cells'.length = cells.length
  | [], _, _, _, h => by cases h; rfl
  | (i, v) :: ps, place, cells, cells', h => by
    unfold vfill at h
    split at h
    · cases h
    · split at h
      · rename_i off size hp hc
        simp only [Bool.and_eq_true] at hc
        have h1 : v.cells.length = size := Nat.eq_of_beq_eq_true hc.1.2
        have h2 : off + size ≤ cells.length := Nat.le_of_ble_eq_true hc.2
        rw [vfill_len h]; simp; omega
      · cases h

theorem TOp.buildSlice {t : TypeId} {len : Nat} {parts : Array (Nat × Operand)} {e k : Nat} {cs : List V} (h : o.op = .buildSlice t len parts) (hb : buildS P t len (parts.toList.map fun p => (p.1, opd fr p.2)) = some (e, k, cs)) :
    TOp P o fr n σ (.sl n 0 len k true (some len)) (n + 1) (σ.put n ⟨cs, true, e⟩) := by
  intro β a w K Q hS ho hk
  obtain ⟨k1, k2⟩ := parts_rel (β := β) (fr := fr) (a := a) (parts := parts) (fun x hx => ho x (by rw [h]; exact hx))
  unfold buildS at hb
  split at hb
  · rename_i e' hu
    split at hb
    · rename_i k' zc hkk hz
      split at hb
      · rename_i hc
        simp only [Bool.and_eq_true] at hc
        have hzl : zc.length = k' := Nat.eq_of_beq_eq_true hc.1.1
        have hpos : 0 < k' := Nat.le_of_ble_eq_true hc.1.2
        have hsmall : len * k' ≤ 16777216 := Nat.le_of_ble_eq_true hc.2
        split at hb
        · rename_i cs' hf
          cases hb
          obtain ⟨z, hzr, rfl, hall⟩ := run_zro (P := P) hz
          have hzs : z.cells.size = k := by simpa using hzl
          let zero : Array Value := if len * k = 0 then #[] else z.cells
          have hrow : F2 (R1 β) ((List.range (len * k)).map fun i => (z.cells.toList.map V.sc).getD (i % k) .und) ((Array.range (len * k)).map (zero[· % zero.size]!)).toList := by
            rw [Array.toList_map, Array.toList_range]
            refine F2.map _ _ _ fun i hi => ?_
            have hi' : i < len * k := by simpa using hi
            have hne : ¬ len * k = 0 := by omega
            have hzero : zero = z.cells := by simp only [zero, if_neg hne]
            have hm : i % k < k := Nat.mod_lt _ hpos
            rw [hzero, hzs]
            have e1 : z.cells[i % k]! = z.cells[i % k]'(by omega) := by
              rw [getElem!_pos]
            have e2 : (z.cells.toList.map V.sc).getD (i % k) .und = .sc (z.cells[i % k]'(by omega)) := by
              simp [List.getD, hzs, hm]
            rw [e1, e2]
            refine ⟨rfl, ?_⟩
            rw [List.all_eq_true] at hall
            exact hall _ (by simp)
          obtain ⟨xs', h1, h2⟩ := fill_ok hf hrow k1 k2
          have hlen : cs.length = len * k := by rw [vfill_len hf]; simp
          have hxl : xs'.size = len * k := by rw [← hlen, h2.length]; simp
          obtain ⟨β', hn, hS', hst⟩ := new_row hS e true cs xs' (0, 0) (fun _ => rfl) (by omega) (by
            rw [List.take_of_length_le (by simp; omega)]; exact h2) { w with heap := w.heap.push (.cells xs' e) } rfl rfl rfl rfl
          refine wp_val (x := .slice (some ⟨w.heap.size, 0, none⟩) len len) (w' := { w with heap := w.heap.push (.cells xs' e) }) ?_ (hk _ β' _ ⟨_, len, hn, 0, rfl, .inl rfl, Nat.le_refl _, fun _ he => by cases he; rfl, fun _ => ⟨rfl, rfl, hxl.symm, ?_⟩⟩ hS' hst)
          · unfold execOp
            rw [h]
            have hb' : ¬ (len * k > 2 ^ 24) := by omega
            by_cases h0 : len * k = 0
            · have hzz : zero = #[] := by simp only [zero, if_pos h0]
              rw [hzz] at h1
              simp only [Instr.buildSlice, Sem.run_bind, run_underlying hu, Result.andThen_ok, run_sz hkk, if_neg hb', if_pos h0, h1, newRow, run_newObj, Sem.run_pure]
            · have hzz : zero = z.cells := by simp only [zero, if_neg h0]
              rw [hzz] at h1
              simp only [Instr.buildSlice, Sem.run_bind, run_underlying hu, Result.andThen_ok, run_sz hkk, if_neg hb', if_neg h0, hzr, h1, newRow, run_newObj, Sem.run_pure]
          · unfold maxLen
            have : len * 1 ≤ len * k := Nat.mul_le_mul_left _ hpos
            omega
        · cases hb
      · cases hb
    · cases hb
  · cases hb

/-! ### a slice of an array's variable, or of a slice -/
theorem POp.sliceArr {t e : TypeId} {x : Operand} {lo hi : Option Operand} {m l hh k id off : Nat} (h : o.op = .slice t x lo hi none) (hu : P.underlying t = some (.array m e)) (hk : sz P e = some k) (hx : opd fr x = .ptr id off)
    (hlo : (lo = none → l = 0) ∧ ∀ y, lo = some y → opd fr y = .sc (.int .i64 l)) (hhi : (hi = none → hh = m) ∧ ∀ y, hi = some y → opd fr y = .sc (.int .i64 hh)) (hlh : l ≤ hh) (hhm : hh ≤ m) (hlm : l < m) :
    POp P o fr (.sl id (off + l * k) (hh - l) k false (some (m - l))) := fun β a w ho => by
  have g1 := ho x (by rw [h]; simp [Op.operands])
  rw [hx] at g1
  obtain ⟨ad, e', p, hp, rfl⟩ := (show R0 β (.ptr id off) (a.eval x) from g1)
  have hb : (Instr.sliceBounds false m m (lo.map a.eval) (hi.map a.eval) none).run P w = .ok (l, hh, m) w := by
    have glo : ∀ y, lo = some y → a.eval y = .int .i64 l := fun y hy => by
      subst hy; have := ho y (by rw [h]; simp [Op.operands]); rw [hlo.2 y rfl] at this; exact this.1
    have ghi : ∀ y, hi = some y → a.eval y = .int .i64 hh := fun y hy => by
      subst hy; have := ho y (by rw [h]; simp [Op.operands]); rw [hhi.2 y rfl] at this; exact this.1
    cases lo with
    | none =>
      have hl : l = 0 := hlo.1 rfl
      subst hl
      cases hi with
      | none => have hh' : hh = m := hhi.1 rfl
                subst hh'
                simp [Instr.sliceBounds]
      | some y => have := ghi y rfl
                  simp [Instr.sliceBounds, this, Instr.sliceBound, asIntOf, hhm]
    | some z =>
      have e1 := glo z rfl
      cases hi with
      | none => have hh' : hh = m := hhi.1 rfl
                subst hh'
                simp [Instr.sliceBounds, e1, Instr.sliceBound, asIntOf, hlh]
      | some y => have := ghi y rfl
                  simp [Instr.sliceBounds, this, e1, Instr.sliceBound, asIntOf, hhm, hlh]
  refine ⟨.slice (some ⟨p.b, p.d + off + l * k, none⟩) (hh - l) (m - l), ?_, p, m - l, hp, p.d + off + l * k, rfl, .inl (by omega), by omega, fun _ he => by cases he; rfl, fun he => by cases he⟩
  unfold execOp
  rw [h]
  have hml : ¬ m = l := by omega
  simp only [Instr.sliceAt, Sem.run_bind, run_underlying hu, Result.andThen_ok, e', Instr.sureAddr, Sem.run_pure, Option.map_none, hb, run_sz hk, if_neg hml, Addr.add_lit]

/-! ### append -/
theorem new_at {β : Bt} {w : World} (hS : Sim n β σ w) (e : TypeId) (rw_ : Bool) (cs : List V) (xs : Array Value) (g : Nat) (fz : Nat × Nat) (hfz : rw_ = true → fz = (0, 0)) (hle : cs.length ≤ xs.size) (hf : F2 (R1 β) cs (xs.toList.take cs.length)) {w' : World}
    (hat : w'.heap[g]? = some (.cells xs e fz)) (hg : w.heap.size ≤ g) (hg' : g < w'.heap.size) (hsz : w.heap.size ≤ w'.heap.size) (hblk : ∀ b, b < w.heap.size → w'.heap[b]? = w.heap[b]?) (h1 : w'.os = w.os) (h2 : w'.tape = w.tape) (h3 : w'.output = w.output) :
    ∃ β', β' n = some ⟨g, 0, xs.size⟩ ∧ Sim (n + 1) β' (σ.put n ⟨cs, rw_, e⟩) w' ∧ Step β σ w β' (σ.put n ⟨cs, rw_, e⟩) w' := by
  let β' : Bt := fun id => if id = n then some ⟨g, 0, xs.size⟩ else β id
  have hnew : β' n = some ⟨g, 0, xs.size⟩ := by simp [β']
  have hold : ∀ id, id ≠ n → β' id = β id := fun id h => by simp [β', h]
  have hle' : β.le β' := fun id p hp => by
    by_cases e : id = n
    · subst e; rw [hS.fresh id (Nat.le_refl _)] at hp; cases hp
    · rw [hold id e]; exact hp
  refine ⟨β', hnew, ⟨?_, ?_, ?_⟩, ⟨hle', h1, h2, h3, hsz, fun b hb _ => hblk b hb, ?_⟩⟩
  · intro id o h
    rcases put_cases h with ⟨rfl, rfl⟩ | ⟨hne, h⟩
    · refine ⟨_, hnew, hg', ?_⟩
      cases rw_ with
      | true => obtain rfl := hfz rfl; exact ⟨rfl, xs, hat, rfl, hle, hf.mono fun _ _ => R1.mono hle'⟩
      | false =>
        intro i v hv
        obtain ⟨x, hx, hR⟩ := hf.get i v hv
        have hi : i < cs.length := (List.getElem?_eq_some_iff.1 hv).1
        rw [List.getElem?_take, if_pos hi] at hx
        refine ⟨x, ?_, R1.mono hle' hR⟩
        rw [Nat.zero_add, cell_of_row w' _ i xs e fz hat]
        simpa using hx
    · obtain ⟨p, hp, hok⟩ := hS.ob id o h
      exact ⟨p, hle' _ _ hp, hok.keep hle' hsz (hblk p.b hok.1)⟩
  · intro id o id' o' p p' h hr h' hne hp hp'
    rcases put_cases h with ⟨rfl, rfl⟩ | ⟨hn1, k⟩ <;> rcases put_cases h' with ⟨rfl, rfl⟩ | ⟨hn2, k'⟩
    · exact (hne rfl).elim
    · obtain ⟨q, hq, hok⟩ := hS.ob id' o' k'
      rw [hold _ hn2, hq] at hp'; rw [hnew] at hp
      cases hp; cases hp'
      have := hok.1; simp; omega
    · obtain ⟨q, hq, hok⟩ := hS.ob id o k
      rw [hold _ hn1, hq] at hp; rw [hnew] at hp'
      cases hp; cases hp'
      have := hok.1; simp; omega
    · rw [hold _ hn1] at hp; rw [hold _ hn2] at hp'
      exact hS.sep id o id' o' p p' k hr k' hne hp hp'
  · intro id hi
    rw [hold id (by omega)]; exact hS.fresh id (by omega)
  · intro id o p h hp
    rcases put_cases h with ⟨rfl, rfl⟩ | ⟨hn1, h⟩
    · rw [hnew] at hp; cases hp; exact .inr hg
    · rw [hold _ hn1] at hp; exact .inl ⟨id, o, p, h, hp, rfl, fun h => h⟩

/-- a type's cells, where a slice of it may grow. -/
def elOk (P : Program) (e : TypeId) : Option (Nat × Nat) := match P.info? e with
  | some i => match i.zero with
    | some z => if Nat.beq z.cells.size i.size && Nat.blt 0 i.size then some (i.size, i.bytes) else none
    | none => none
  | none => none
theorem elOk_ok {e z b : Nat} (h : elOk P e = some (z, b)) : ∃ i zv, P.info? e = some i ∧ i.zero = some zv ∧ i.size = z ∧ i.bytes = b ∧ zv.cells.size = z ∧ 0 < z := by
  unfold elOk at h
  split at h
  · rename_i i hi
    split at h
    · rename_i zv hz
      split at h
      · rename_i hc
        simp only [Bool.and_eq_true] at hc
        cases h
        exact ⟨i, zv, hi, hz, rfl, rfl, Nat.eq_of_beq_eq_true hc.1, Nat.le_of_ble_eq_true hc.2⟩
      · cases h
    · cases h
  · cases h

theorem sl_cells {β : Bt} {w : World} {id off m z : Nat} {top : Bool} {cap : Option Nat} {x : Value} {ob : Ob} (hS : Sim n β σ w) (hR : R0 β (.sl id off m z top cap) x) (hob : σ id = some ob) (hfit : off + m * z ≤ ob.cells.length) :
    ∃ (ad : Addr) (c : Nat) (xs : List Value), x = .slice (some ad) m c ∧ m ≤ c ∧ F2 (R1 β) ((ob.cells.drop off).take (m * z)) xs ∧ (∀ j u, xs[j]? = some u → w.cell? (ad.add j) = some u) := by
  obtain ⟨p, c, hp, d', rfl, hd, hmc, _⟩ := hR
  obtain ⟨q, hq, hok⟩ := hS.ob id ob hob
  obtain rfl : p = q := Option.some.inj (hp.symm.trans hq)
  by_cases hm : m = 0
  · subst hm
    exact ⟨_, c, [], rfl, hmc, by simp [F2], fun j u h => by simp at h⟩
  · obtain rfl : d' = p.d + off := by rcases hd with h | ⟨h, _⟩; exact h; exact (hm h).elim
    obtain ⟨xs, hf, hc⟩ := cells_at hok off ((ob.cells.drop off).take (m * z)) (fun i v hv => slice_get _ _ _ _ _ hv)
    exact ⟨_, c, xs, rfl, hmc, hf, hc⟩

theorem TOp.append {x y : Operand} {t e : TypeId} {id len z b id' off' m : Nat} {cap cap' : Option Nat} {top' : Bool} {ob ob' : Ob} (h : o.op = .call { callee := .builtin .append, args := #[x, y], argTypes := #[t, t] }) (hu : P.underlying t = some (.slice e)) (hz : elOk P e = some (z, b))
    (hx : opd fr x = .sl id 0 len z true cap) (hob : σ id = some ob) (hrw : ob.rw = true) (he : ob.e = e) (hlen : len * z ≤ ob.cells.length)
    (hy : opd fr y = .sl id' off' m z top' cap') (hob' : σ id' = some ob') (hfit : off' + m * z ≤ ob'.cells.length) (hby : (len + m) * b ≤ 140737488355328) (h63 : len + m ≤ maxLen) :
    TOp P o fr n σ (.sl n 0 (len + m) z true none) (n + 1) ((σ.del id).put n ⟨ob.cells.take (len * z) ++ (ob'.cells.drop off').take (m * z), true, e⟩) := by
  intro β a w K Q hS ho hk
  have g1 := ho x (by rw [h]; simp [Op.operands, Call.operands])
  have g2 := ho y (by rw [h]; simp [Op.operands, Call.operands])
  rw [hx] at g1; rw [hy] at g2
  obtain ⟨ad, c', xs2, e2, hmc, hf2, hc2⟩ := sl_cells hS (show R0 β (.sl id' off' m z top' cap') (a.eval y) from g2) hob' hfit
  obtain ⟨p, c, hp, d', e1, hd', hlc, _, htop⟩ := (show R0 β (.sl id 0 len z true cap) (a.eval x) from g1)
  obtain ⟨_, hpd, hcs, hcm⟩ := htop rfl
  obtain ⟨q, hq, hlt, hok⟩ := hS.ob id ob hob
  obtain rfl : p = q := Option.some.inj (hp.symm.trans hq)
  rw [hrw] at hok
  obtain ⟨hd0, cur, hg, hsz, hle, hf⟩ := hok
  obtain rfl : d' = 0 := by rcases hd' with h' | ⟨_, h'⟩; omega; cases h'
  obtain ⟨i, zv, hi, hzv, hsize, hbytes, hzs, hpos⟩ := elOk_ok hz
  have hown : w.ownsRow 0 e z (.slice (some ⟨p.b, 0, none⟩) len c) len (cur.toList.take (len * z)) := by
    refine ⟨?_, .inr ⟨p.b, c, cur, rfl, Nat.zero_le _, by rw [← he]; exact hg, hlc, hcm, by rw [hsz, hcs], rfl⟩⟩
    rw [List.length_take, Array.length_toList, hsz, ← hcs]
    exact Nat.min_eq_left (Nat.mul_le_mul_right _ hlc)
  have hnl : xs2.length = m * z := by rw [← hf2.length]; simp; omega
  obtain ⟨v', w', hr, hown', hgr, hnil, hat⟩ := run_append_own_at (P := P) w 0 t o.type e i zv z b hu hi hzv hsize hbytes hzs hpos _ len _ hown ad m c' xs2 hnl hc2 (F2.one hf2) h63 hby (Nat.zero_le _)
  obtain ⟨hl', hcase⟩ := hown'
  have hrun : (execOp a.eval o).run P w = .ok (.value v') w' := by
    unfold execOp
    rw [h]
    simp only [resolve, invoke, builtin, Sem.run_bind, Sem.run_pure, Result.andThen_ok, List.map_toArray, List.map_cons, List.map_nil, e1, e2, hr]
  rcases hcase with ⟨rfl, h0⟩ | ⟨g, cap2, cur2, rfl, _, hg2, hlc2, hcm2, hcs2, ht2⟩
  · -- v' nil: impossible, as the old slice is none
    exact absurd (hnil.1 rfl).1 (by simp)
  · have hgb : g = p.b ∨ w.heap.size ≤ g := by
      rcases hat with h' | h'
      · left; simpa [Value.ownBlock] using h'
      · right; simp [Value.ownBlock] at h'; omega
    have hcl : (ob.cells.take (len * z) ++ (ob'.cells.drop off').take (m * z)).length = (len + m) * z := by
      simp; rw [Nat.add_mul]; omega
    have hF : F2 (R1 β) (ob.cells.take (len * z) ++ (ob'.cells.drop off').take (m * z)) (cur2.toList.take (ob.cells.take (len * z) ++ (ob'.cells.drop off').take (m * z)).length) := by
      rw [hcl, ht2]
      refine F2.app ?_ hf2
      have := hf.take (len * z)
      rwa [List.take_take, Nat.min_eq_left hlen] at this
    obtain ⟨β', hn, hS', hst⟩ := next_row (w' := w') hS hob hrw hp e _ cur2 g hgb (Array.getElem?_eq_some_iff.1 hg2).1 hg2 (by rw [hcl]; simpa [hcs2] using Nat.mul_le_mul_right z hlc2) hF hgr.size
      (fun k hk hne => hgr.block k hk (by simpa [Value.ownBlock] using hne)) hgr.os hgr.tape hgr.output
    exact wp_val hrun (hk _ β' _ ⟨_, cap2, hn, 0, rfl, .inl rfl, hlc2, fun _ h => (by cases h), fun _ => ⟨rfl, rfl, hcs2.symm, hcm2⟩⟩ hS' hst)

/-- onto nil. -/
theorem TOp.appendNil {x y : Operand} {t e : TypeId} {z b id' off' m : Nat} {cap' : Option Nat} {top' : Bool} {ob' : Ob} (h : o.op = .call { callee := .builtin .append, args := #[x, y], argTypes := #[t, t] }) (hu : P.underlying t = some (.slice e)) (hz : elOk P e = some (z, b))
    (hx : opd fr x = .sc (.slice none 0 0)) (hy : opd fr y = .sl id' off' m z top' cap') (hob' : σ id' = some ob') (hfit : off' + m * z ≤ ob'.cells.length) (hby : m * b ≤ 140737488355328) (h63 : m ≤ maxLen) (hm : 0 < m) :
    TOp P o fr n σ (.sl n 0 m z true none) (n + 1) (σ.put n ⟨(ob'.cells.drop off').take (m * z), true, e⟩) := by
  intro β a w K Q hS ho hk
  have g1 := ho x (by rw [h]; simp [Op.operands, Call.operands])
  have g2 := ho y (by rw [h]; simp [Op.operands, Call.operands])
  rw [hx] at g1; rw [hy] at g2
  have e1 : a.eval x = .slice none 0 0 := g1.1
  obtain ⟨ad, c', xs2, e2, hmc, hf2, hc2⟩ := sl_cells hS (show R0 β (.sl id' off' m z top' cap') (a.eval y) from g2) hob' hfit
  obtain ⟨i, zv, hi, hzv, hsize, hbytes, hzs, hpos⟩ := elOk_ok hz
  have hnl : xs2.length = m * z := by rw [← hf2.length]; simp; omega
  obtain ⟨v', w', hr, hown', hgr, hnil, hat⟩ := run_append_own_at (P := P) w 0 t o.type e i zv z b hu hi hzv hsize hbytes hzs hpos _ 0 _ (World.ownsRow_nil w 0 e z) ad m c' xs2 hnl hc2 (F2.one hf2) (by omega) (by simpa using hby) (Nat.zero_le _)
  obtain ⟨hl', hcase⟩ := hown'
  have hrun : (execOp a.eval o).run P w = .ok (.value v') w' := by
    unfold execOp
    rw [h]
    simp only [resolve, invoke, builtin, Sem.run_bind, Sem.run_pure, Result.andThen_ok, List.map_toArray, List.map_cons, List.map_nil, e1, e2, hr]
  simp only [Nat.zero_add, List.nil_append] at hcase
  rcases hcase with ⟨rfl, h0⟩ | ⟨g, cap2, cur2, rfl, _, hg2, hlc2, hcm2, hcs2, ht2⟩
  · omega
  · have hgb : g = w.heap.size := by
      rcases hat with h' | h'
      · simp [Value.ownBlock] at h'
      · simpa [Value.ownBlock] using h'
    subst hgb
    have hcl : ((ob'.cells.drop off').take (m * z)).length = m * z := by simp; omega
    have hnew : ∀ k, k < w.heap.size → w'.heap[k]? = w.heap[k]? := fun k hk => hgr.block k hk (by simp [Value.ownBlock])
    obtain ⟨β', hn, hS', hst⟩ := new_at (w' := w') hS e true ((ob'.cells.drop off').take (m * z)) cur2 w.heap.size (0, 0) (fun _ => rfl) (by rw [hcl, hcs2]; exact Nat.mul_le_mul_right z hlc2) (by rw [hcl, ht2]; exact hf2) hg2 (Nat.le_refl _) (Array.getElem?_eq_some_iff.1 hg2).1 hgr.size hnew hgr.os hgr.tape hgr.output
    exact wp_val hrun (hk _ β' _ ⟨_, cap2, hn, 0, rfl, .inl rfl, hlc2, fun _ h => (by cases h), fun _ => ⟨rfl, rfl, hcs2.symm, hcm2⟩⟩ hS' hst)

/-- nothing more. -/
theorem TOp.appendNone {x y : Operand} {t e : TypeId} {z b : Nat} (h : o.op = .call { callee := .builtin .append, args := #[x, y], argTypes := #[t, t] }) (hu : P.underlying t = some (.slice e)) (hz : elOk P e = some (z, b))
    (hx : (∃ id off len z top cap, opd fr x = .sl id off len z top cap) ∨ opd fr x = .sc (.slice none 0 0)) (hy : opd fr y = .sc (.slice none 0 0)) :
    POp P o fr (opd fr x) := fun β a w ho => by
  have g1 := ho x (by rw [h]; simp [Op.operands, Call.operands])
  have g2 := ho y (by rw [h]; simp [Op.operands, Call.operands])
  rw [hy] at g2
  have e2 : a.eval y = .slice none 0 0 := g2.1
  obtain ⟨i, zv, hi, hzv, hsize, hbytes, hzs, hpos⟩ := elOk_ok hz
  refine ⟨a.eval x, ?_, g1⟩
  unfold execOp
  rw [h]
  rcases hx with ⟨id, off, len, z, top, cap, hx⟩ | hx
  · rw [hx] at g1
    obtain ⟨p, c, hp, d', e1, hd', hlc, _, htop⟩ := (show R0 β (.sl id off len z top cap) (a.eval x) from g1)
    simp [resolve, invoke, builtin, e1, e2, Builtin.append_, run_underlying hu, sizeOf, typeInfo, hi, Builtin.lenOf, Builtin.firstCells, hlc, storeCells]
  · rw [hx] at g1
    have e1 : a.eval x = .slice none 0 0 := g1.1
    simp [resolve, invoke, builtin, e1, e2, Builtin.append_, run_underlying hu, sizeOf, typeInfo, hi, Builtin.lenOf, Builtin.firstCells]

end
end Go.Proofs.Ytnklnboglijcbaa.D
