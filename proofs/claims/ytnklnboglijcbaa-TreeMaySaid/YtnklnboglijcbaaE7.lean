/- Places, parts, numbers, aggregates. Plain Lean over the kit's model; no program. -/
import Derived.Test.YtnklnboglijcbaaE6
import Derived.Laws.StructEq
import Derived.ChangeKeysEq
namespace Go.Proofs.Ytnklnboglijcbaa.E
open Go Go.RowKit
set_option linter.unusedVariables false

/-! ### lengths, sums -/
def mkAdd : E → E → E
  | .lit a, .lit b => .lit (IntKind.wrap .i64 (a + b))
  | a, b => .bin .add .i64 a b
/-- how many elements a row has. -/
def Row.lenE (z : Nat) : Row → Option E
  | .any cs => if Nat.blt 0 z && Nat.beq (cs.length % z) 0 then some (.lit (.ofNat (cs.length / z))) else none
  | .ints k l => if Nat.beq z 1 then some (mkLen l) else none
  | .recs z' n t => if Nat.beq z z' && Nat.blt 0 z then some n else none
theorem Row.lenE_ok {β : Bt} {r : Row} {xs : List Value} {z : Nat} {e : E} (h : RH β r xs) (he : r.lenE z = some e) : 0 < z ∧ 0 ≤ e.den β.g.env ∧ xs.length = (e.den β.g.env).toNat * z := by
  cases r with
  | any cs =>
    have hf : F2 (R1 β) cs xs := h
    unfold Row.lenE at he
    simp only at he
    split at he
    · rename_i hc
      simp only [Bool.and_eq_true] at hc
      cases he
      have h0 : 0 < z := Nat.le_of_ble_eq_true hc.1
      have h1 := Nat.eq_of_beq_eq_true hc.2
      refine ⟨h0, Int.natCast_nonneg _, ?_⟩
      have := Nat.div_add_mod cs.length z
      rw [h1, Nat.add_zero, Nat.mul_comm] at this
      simp only [E.den, Int.ofNat_eq_natCast, Int.toNat_natCast]
      rw [this, hf.length]
    · cases he
  | ints k l =>
    have hx : xs = (l.den β.g.env).map (.int k) := by simpa only [RH, Fr] using h
    subst hx
    unfold Row.lenE at he
    simp only at he
    split at he
    · rename_i hc
      cases he
      rw [Nat.eq_of_beq_eq_true hc, mkLen_den]
      exact ⟨by omega, by omega, by simp⟩
    · cases he
  | recs z' n t =>
    have h' : 0 ≤ n.den β.g.env ∧ xs.length = (n.den β.g.env).toNat * z' ∧ ∀ i : Nat, i < (n.den β.g.env).toNat → Fs t (β.g.at i) ((xs.drop (i * z')).take z') := by simpa only [RH, Fr] using h
    unfold Row.lenE at he
    simp only at he
    split at he
    · rename_i hc
      simp only [Bool.and_eq_true] at hc
      cases he
      rw [Nat.eq_of_beq_eq_true hc.1]
      exact ⟨by have : 0 < z := Nat.le_of_ble_eq_true hc.2; have := Nat.eq_of_beq_eq_true hc.1; omega, h'.1, h'.2.1⟩
    · cases he

/-! ### places -/
def fldV (off : Nat) : V → Option V
  | .ptr id i z c => some (.ptr id i z (c + off))
  | .fe r i z c => some (.fe r i z (c + off))
  | _ => none
/-- a pointer to an array, and an element's place. -/
def idxV (m k : Nat) (e : E) : V → Option (V × List B)
  | .ptr id i z c => match e with
    | .lit (.ofNat j) => if Nat.blt j m then some (.ptr id i z (c + j * k), []) else none
    | e => match i with
      | .lit (.ofNat q) => some (.ptr id e k (q * z + c), [inB e (.lit (.ofNat m))])
      | _ => none
  | .fe r i z c => match e with
    | .lit (.ofNat j) => if Nat.blt j m then some (.fe r i z (c + j * k), []) else none
    | e => match i with
      | .lit (.ofNat q) => some (.fe r e k (q * z + c), [inB e (.lit (.ofNat m))])
      | _ => none
  | _ => none
/-- a slice, and an element's place. -/
def idxS (z : Nat) (e : E) : V → Option (V × List B)
  | .sl id co off len z' _ => if Nat.beq z z' then match off with
      | .lit (.ofNat q) => match e with
        | .lit (.ofNat j) => some (.ptr id (.lit (.ofNat (q + j))) z co, [mkLt e len])
        | e => some (.ptr id e z (co + q * z), [inB e len])
      | off => match e with
        | .lit (.ofNat j) => some (.ptr id off z (co + j * z), [mkLt e len])
        | _ => none
    else none
  | .fs z' r => if Nat.beq z z' then match r.lenE z with
      | some n => some (.fe r e z 0, [inB e n])
      | none => none
    else none
  | _ => none

section
variable {P : Program} {ρ : Env} {o : Oper} {fr : Fm} {n : Nat} {σ : Sto}

theorem fldV_ok {β : Bt} {off : Nat} {v v' : V} {x : Value} (h : fldV off v = some v') (hR : R β v x) : ∃ a : Addr, x = .pointer (some a) ∧ a.spot = none ∧ R β v' (.pointer (some ⟨a.block, a.off + off, none⟩)) := by
  unfold fldV at h
  split at h
  · rename_i id i z c
    cases h
    obtain ⟨p, hp, rfl⟩ := (show R0 β (.ptr id i z c) x from hR)
    exact ⟨_, rfl, rfl, p, hp, by rw [Nat.add_assoc]⟩
  · rename_i r i z c
    cases h
    have h1 : F1 (.fe r i z c) β.g x := hR
    simp only [F1] at h1
    obtain ⟨xs, b, d, full, rfl, h2, h3, h4⟩ := h1
    refine ⟨_, rfl, rfl, ?_⟩
    show F1 (.fe r i z (c + off)) β.g _
    simp only [F1]
    exact ⟨xs, b, d, full, by rw [Nat.add_assoc], h2, h3, h4⟩
  · cases h
theorem POp.fieldAddr {s : TypeId} {x : Operand} {f k : Nat} {fs : Array Field} {fld : Field} {v : V} (h : o.op = .fieldAddr s x f) (hv : fldV fld.offset (opd fr x) = some v) (hu : P.underlying s = some (.struct fs)) (hf : fs[f]? = some fld)
    (hk : sz P fld.type = some k) (hpos : k ≠ 0) : POp P ρ o fr v :=
  fun β a w _ ho => by
    have h1 := ho x (by rw [h]; simp [Op.operands])
    obtain ⟨ad, e, hsp, hR⟩ := fldV_ok hv h1
    refine ⟨_, ?_, hR⟩
    obtain ⟨b, off, spot⟩ := ad
    simp only at hsp
    subst hsp
    unfold execOp; rw [h]
    simp [Instr.fieldAt, run_underlying hu, hf, Instr.sureAddr, e, fieldPlace, run_sz hk, hpos, Addr.add_lit]

theorem idxV_ok {β : Bt} {m k : Nat} {e : E} {v v' : V} {x : Value} {bs : List B} (h : idxV m k e v = some (v', bs)) (hb : ∀ b ∈ bs, b.den β.g.env = true) (hR : R β v x) :
    ∃ a : Addr, x = .pointer (some a) ∧ a.spot = none ∧ 0 ≤ e.den β.g.env ∧ e.den β.g.env < m ∧ R β v' (.pointer (some ⟨a.block, a.off + (e.den β.g.env).toNat * k, none⟩)) := by
  have lit : ∀ {j : Nat}, Nat.blt j m = true → 0 ≤ (E.lit (.ofNat j)).den β.g.env ∧ (E.lit (.ofNat j)).den β.g.env < m ∧ ((E.lit (.ofNat j)).den β.g.env).toNat = j := fun {j} hj => by
    have hj : j < m := Nat.le_of_ble_eq_true hj
    simp only [E.den, Int.ofNat_eq_natCast]
    omega
  unfold idxV at h
  split at h
  · rename_i id i z c
    obtain ⟨p, hp, rfl⟩ := (show R0 β (.ptr id i z c) x from hR)
    split at h
    · rename_i j
      split at h
      · rename_i hj
        cases h
        obtain ⟨l1, l2, l3⟩ := lit hj
        exact ⟨_, rfl, rfl, l1, l2, p, hp, by rw [l3, Nat.add_assoc]⟩
      · cases h
    · split at h
      · rename_i q
        cases h
        have hi := inB_den (hb _ (List.mem_singleton.2 rfl))
        refine ⟨_, rfl, rfl, hi.1, by simpa [E.den] using hi.2, p, hp, ?_⟩
        simp only [E.den, Int.ofNat_eq_natCast, Int.toNat_natCast]
        rw [Nat.add_comm (q * z + c)]
      · cases h
  · rename_i r i z c
    have h1 : F1 (.fe r i z c) β.g x := hR
    simp only [F1] at h1
    obtain ⟨xs, b, d, full, rfl, h2, h3, h4⟩ := h1
    split at h
    · rename_i j
      split at h
      · rename_i hj
        cases h
        obtain ⟨l1, l2, l3⟩ := lit hj
        refine ⟨_, rfl, rfl, l1, l2, ?_⟩
        show F1 (.fe r i z (c + j * k)) β.g _
        simp only [F1]
        exact ⟨xs, b, d, full, by rw [l3, Nat.add_assoc], h2, h3, h4⟩
      · cases h
    · split at h
      · rename_i e' _ _ q
        cases h
        have hi := inB_den (hb _ (List.mem_singleton.2 rfl))
        refine ⟨_, rfl, rfl, hi.1, by simpa [E.den] using hi.2, ?_⟩
        show F1 (.fe r e k (q * z + c)) β.g _
        simp only [F1]
        refine ⟨xs, b, d, full, ?_, h2, h3, h4⟩
        simp only [E.den, Int.ofNat_eq_natCast, Int.toNat_natCast, Value.pointer.injEq, Option.some.injEq, Addr.mk.injEq, true_and, and_true]
        omega
      · cases h
  · cases h
theorem POp.indexArr {t : TypeId} {x i : Operand} {m k : Nat} {el : TypeId} {kd : IntKind} {e e0 : E} {v : V} {bs : List B} (h : o.op = .indexAddr t x i) (hi : opd fr i = .int kd e0) (he0 : e0.den ρ = e.den ρ) (hu : P.underlying t = some (.array m el))
    (hk : sz P el = some k) (hv : idxV m k e (opd fr x) = some (v, bs)) (hb : ∀ b ∈ bs, b.den ρ = true) : POp P ρ o fr v :=
  fun β a w hρ ho => by
    have g1 := ho x (by rw [h]; simp [Op.operands])
    have g2 : a.eval i = .int kd (e.den β.g.env) := by have := ho i (by rw [h]; simp [Op.operands]); rw [hi] at this; rw [hρ, ← he0, ← hρ]; exact R_int this
    obtain ⟨ad, e1, hsp, h0, h1, hR⟩ := idxV_ok hv (by rw [hρ]; exact hb) g1
    obtain ⟨b, off, spot⟩ := ad
    simp only at hsp
    subst hsp
    refine ⟨_, ?_, hR⟩
    unfold execOp; rw [h]
    simp [Instr.indexAt, run_underlying hu, g2, asIntOf, Instr.sureAddr, e1, run_sz hk, h0, h1, Addr.add_lit]

theorem idxS_ok {β : Bt} {z : Nat} {e : E} {v v' : V} {x : Value} {bs : List B} (h : idxS z e v = some (v', bs)) (hb : ∀ b ∈ bs, b.den β.g.env = true) (hR : R β v x) :
    ∃ (a : Addr) (n c : Nat), x = .slice (some a) n c ∧ a.spot = none ∧ 0 ≤ e.den β.g.env ∧ e.den β.g.env < n ∧ R β v' (.pointer (some ⟨a.block, a.off + (e.den β.g.env).toNat * z, none⟩)) := by
  unfold idxS at h
  split at h
  · rename_i id co off len z' top
    split at h
    · rename_i hz
      obtain rfl := Nat.eq_of_beq_eq_true hz
      obtain ⟨q0, hq0, hl0, hcase⟩ := (show R0 β (.sl id co off len z top) x from hR)
      have key : 0 ≤ e.den β.g.env → e.den β.g.env < len.den β.g.env → ∃ p c, β.nm id = some (some p) ∧ x = .slice (some ⟨p.b, co + (off.den β.g.env).toNat * z, none⟩) (len.den β.g.env).toNat c := by
        intro k0 k1
        rcases hcase with ⟨p, d, c, rfl, hx, hd, _⟩ | ⟨_, _, _, h5, _⟩
        · rcases hd with rfl | ⟨hd, _⟩
          · exact ⟨p, c, hq0, hx⟩
          · omega
        · omega
      split at h
      · rename_i q
        split at h
        · rename_i j
          cases h
          have hl : (E.lit (.ofNat j)).den β.g.env < len.den β.g.env := by have := hb _ (List.mem_singleton.2 rfl); rw [mkLt_den, ltb_eq] at this; simpa using this
          have h0 : 0 ≤ (E.lit (.ofNat j)).den β.g.env := Int.natCast_nonneg _
          obtain ⟨p, c, hp, rfl⟩ := key h0 hl
          refine ⟨_, _, _, rfl, rfl, h0, by omega, p, hp, ?_⟩
          simp only [E.den, Int.ofNat_eq_natCast, Int.toNat_natCast, Value.pointer.injEq, Option.some.injEq, Addr.mk.injEq, true_and, and_true]
          rw [Nat.add_mul]; omega
        · cases h
          have hi := inB_den (hb _ (List.mem_singleton.2 rfl))
          obtain ⟨p, c, hp, rfl⟩ := key hi.1 hi.2
          refine ⟨_, _, _, rfl, rfl, hi.1, by omega, p, hp, ?_⟩
          simp only [E.den, Int.ofNat_eq_natCast, Int.toNat_natCast, Value.pointer.injEq, Option.some.injEq, Addr.mk.injEq, true_and, and_true]
          omega
      · split at h
        · rename_i j
          cases h
          have hl : (E.lit (.ofNat j)).den β.g.env < len.den β.g.env := by have := hb _ (List.mem_singleton.2 rfl); rw [mkLt_den, ltb_eq] at this; simpa using this
          have h0 : 0 ≤ (E.lit (.ofNat j)).den β.g.env := Int.natCast_nonneg _
          obtain ⟨p, c, hp, rfl⟩ := key h0 hl
          refine ⟨_, _, _, rfl, rfl, h0, by omega, p, hp, ?_⟩
          simp only [E.den, Int.ofNat_eq_natCast, Int.toNat_natCast, Value.pointer.injEq, Option.some.injEq, Addr.mk.injEq, true_and, and_true]
          omega
        · cases h
    · cases h
  · rename_i z' r
    split at h
    · rename_i hz
      obtain rfl := Nat.eq_of_beq_eq_true hz
      split at h
      · rename_i ne hne
        cases h
        have hi := inB_den (hb _ (List.mem_singleton.2 rfl))
        have h1 : F1 (.fs z r) β.g x := hR
        simp only [F1] at h1
        obtain ⟨xs, m, c, a, rfl, h2, h3, h4, h5⟩ := h1
        obtain ⟨hz0, hn0, hlen⟩ := Row.lenE_ok (RH.ofFr h4) hne
        have hm : m = (ne.den β.g.env).toNat := Nat.eq_of_mul_eq_mul_right hz0 (h2.trans hlen)
        rcases h5 with ⟨_, h6, _⟩ | ⟨b, d, rfl, h6⟩
        · omega
        · rcases h6 with h6 | ⟨cs, h6, h7⟩
          · omega
          · refine ⟨_, _, _, rfl, rfl, hi.1, by omega, ?_⟩
            show F1 (.fe r e z 0) β.g _
            simp only [F1]
            exact ⟨xs, b, d, cs, rfl, h4, h6, h7⟩
      · cases h
    · cases h
  · cases h
theorem POp.indexSl {t : TypeId} {x i : Operand} {z : Nat} {el : TypeId} {kd : IntKind} {e : E} {v : V} {bs : List B} (h : o.op = .indexAddr t x i) (hi : opd fr i = .int kd e) (hu : P.underlying t = some (.slice el))
    (hk : sz P el = some z) (hv : idxS z e (opd fr x) = some (v, bs)) (hb : ∀ b ∈ bs, b.den ρ = true) : POp P ρ o fr v :=
  fun β a w hρ ho => by
    have g1 := ho x (by rw [h]; simp [Op.operands])
    have g2 : a.eval i = .int kd (e.den β.g.env) := by have := ho i (by rw [h]; simp [Op.operands]); rw [hi] at this; exact R_int this
    obtain ⟨ad, m, c, e1, hsp, h0, h1, hR⟩ := idxS_ok hv (by rw [hρ]; exact hb) g1
    obtain ⟨b, off, spot⟩ := ad
    simp only at hsp
    subst hsp
    refine ⟨_, ?_, hR⟩
    unfold execOp; rw [h]
    simp [Instr.indexAt, run_underlying hu, g2, asIntOf, e1, run_sz hk, h0, h1, Addr.add_lit]

/-! ### parts of a value -/
theorem run_part {β : Bt} {w : World} {t off k : Nat} {cs : List V} {xs : Array Value} {v : V} (hf : F2 (R1 β) cs xs.toList) (hk : sz P t = some k) (hle : off + k ≤ cs.length) (hp : ofSeg P t ((cs.drop off).take k) = some v) : ∃ x, (Go.part t xs off).run P w = .ok x w ∧ R2 β v x := by
  unfold ofSeg at hp
  split at hp
  · rename_i d hd
    split at hp
    · rename_i hag
      cases hp
      refine ⟨.agg (xs.extract off (off + k)), by simp [Go.part, run_isAg hd, hag, run_sz hk], _, rfl, ?_⟩
      have := (hf.drop off).take k
      simpa [Array.toList_extract, List.extract_eq_take_drop, List.extract] using this
    · rename_i hag
      split at hp
      · rename_i v' hv'
        cases hp
        have h0 : cs[off]? = some v := by
          have := congrArg (fun l => l[0]?) hv'
          simp only [List.getElem?_take, List.getElem?_drop] at this
          split at this
          · simpa using this
          · simp at this
        obtain ⟨x, hx, hR⟩ := hf.get off v h0
        have hag' : isAg (some d) = false := by simpa using hag
        have hx' : xs[off]? = some x := by simpa using hx
        exact ⟨x, by simp [Go.part, run_isAg hd, hag', hx'], hR.up⟩
      · cases hp
  · cases hp
theorem POp.field {t k : TypeId} {x : Operand} {f : Nat} {fs : Array Field} {fld : Field} {cs : List V} {v : V} (h : o.op = .field t x f) (hx : opd fr x = .agg cs) (hu : P.underlying t = some (.struct fs)) (hf : fs[f]? = some fld) (hk : sz P fld.type = some k) (hle : fld.offset + k ≤ cs.length) (hv : ofSeg P fld.type ((cs.drop fld.offset).take k) = some v) :
    POp P ρ o fr v :=
  fun β a w _ ho => by
    have g1 := ho x (by rw [h]; simp [Op.operands])
    rw [hx] at g1
    obtain ⟨xs, e, hF⟩ := g1
    obtain ⟨y, hy, hR⟩ := run_part (P := P) (w := w) hF hk hle hv
    exact ⟨y, by unfold execOp; rw [h]; simp [Instr.field, run_underlying hu, hf, e, asAgg, hy], hR.up⟩
theorem POp.indexV {t : TypeId} {x i : Operand} {len k : Nat} {el : TypeId} {cs : List V} {v : V} {kd : IntKind} {j : Nat} {e0 : E} (h : o.op = .index t x i) (hx : opd fr x = .agg cs) (hi : opd fr i = .int kd e0) (he0 : e0.den ρ = (j : Int)) (hu : P.underlying t = some (.array len el))
    (hk : sz P el = some k) (h1 : j < len) (hle : j * k + k ≤ cs.length) (hv : ofSeg P el ((cs.drop (j * k)).take k) = some v) : POp P ρ o fr v :=
  fun β a w hρ ho => by
    have g1 := ho x (by rw [h]; simp [Op.operands])
    rw [hx] at g1
    obtain ⟨xs, e, hF⟩ := g1
    have g2 : a.eval i = .int kd j := by have := ho i (by rw [h]; simp [Op.operands]); rw [hi] at this; rw [← he0, ← hρ]; exact R_int this
    obtain ⟨y, hy, hR⟩ := run_part (P := P) (w := w) hF hk hle hv
    exact ⟨y, by unfold execOp; rw [h]; simp [Instr.index, run_underlying hu, g2, asIntOf, e, run_sz hk, h1, hy], hR.up⟩

/-! ### numbers -/
def isArith : BinOp → Bool
  | .add | .sub | .mul | .and | .or | .xor | .andNot => true
  | _ => false
def isDiv : BinOp → Bool
  | .quo | .rem => true
  | _ => false
def isShift : BinOp → Bool
  | .shl | .shr => true
  | _ => false
def mkBin (op : BinOp) (k : IntKind) : E → E → E
  | .lit a, .lit b => .lit (binI op k a b)
  | a, b => .bin op k a b
theorem mkBin_den (ρ : Env) (op : BinOp) (k : IntKind) (a b : E) : (mkBin op k a b).den ρ = binI op k (a.den ρ) (b.den ρ) := by unfold mkBin; split <;> rfl
def mkUn (op : UnOp) (k : IntKind) : E → E
  | .lit a => .lit (unI op k a)
  | a => .un op k a
theorem mkUn_den (ρ : Env) (op : UnOp) (k : IntKind) (a : E) : (mkUn op k a).den ρ = unI op k (a.den ρ) := by unfold mkUn; split <;> rfl
def mkConv (k : IntKind) : E → E
  | .lit a => .lit (k.wrap a)
  | a => bif leO (some (kMin k)) (rng 5 a).1 && leO (rng 5 a).2 (some (kMax k)) then a else .conv k a
theorem leO_ok {a b : Int} {o : Option Int} : (leO (some a) o = true → ∃ c, o = some c ∧ a ≤ c) ∧ (leO o (some b) = true → ∃ c, o = some c ∧ c ≤ b) := by
  constructor <;> intro h <;> cases o <;> simp only [leO] at h <;> first | (cases h; done) | exact ⟨_, rfl, leb_ok h⟩
theorem mkConv_den (ρ : Env) (k : IntKind) (a : E) : (mkConv k a).den ρ = k.wrap (a.den ρ) := by
  unfold mkConv
  split
  · rfl
  · rename_i hne
    clear hne
    cases h : leO (some (kMin k)) (rng 5 a).1 && leO (rng 5 a).2 (some (kMax k)) with
    | false => rfl
    | true =>
      simp only [Bool.and_eq_true] at h
      obtain ⟨c, h1, h2⟩ := (leO_ok (b := 0)).1 h.1
      obtain ⟨d, h3, h4⟩ := (leO_ok (a := 0)).2 h.2
      have := (rng_ok ρ 5 a).1 c h1
      have := (rng_ok ρ 5 a).2 d h3
      rw [cond_true, wrap_id k _ (by omega) (by omega)]
def mkOfB : B → E
  | .lit b => .lit (b2i b)
  | b => .ofB b
theorem mkOfB_den (ρ : Env) (b : B) : (mkOfB b).den ρ = b2i (b.den ρ) := by unfold mkOfB; split <;> rfl
def cmpB (op : BinOp) (a b : E) : Option B := match op with
  | .eql => some (mkEq a b)
  | .neq => some (mkNot (mkEq a b))
  | .lss => some (mkLt a b)
  | .leq => some (mkNot (mkLt b a))
  | .gtr => some (mkLt b a)
  | .geq => some (mkNot (mkLt a b))
  | _ => none
def litsO : L → Option (List Int)
  | .nil => some []
  | .cons (.lit i) l => match litsO l with
    | some r => some (i :: r)
    | none => none
  | _ => none
theorem litsO_ok (ρ : Env) : ∀ {l : L} {r : List Int}, litsO l = some r → l.den ρ = r
  | .nil, r, h => by cases h; rfl
  | .cons (.lit i) l, r, h => by
    unfold litsO at h
    split at h
    · rename_i r' hr; cases h; simp [L.den, E.den, litsO_ok ρ hr]
    · cases h
  | .cons (.var _) _, r, h | .cons .ix _, r, h | .cons (.bin ..) _, r, h | .cons (.un ..) _, r, h | .cons (.conv ..) _, r, h | .cons (.get ..) _, r, h | .cons (.len _) _, r, h | .cons (.cnt _) _, r, h | .cons (.ofB _) _, r, h | .cons (.ite ..) _, r, h => by cases h
  | .var _, r, h | .at .., r, h | .cat .., r, h | .cut .., r, h | .sub .., r, h | .set .., r, h | .rep .., r, h | .byt .., r, h | .app .., r, h | .ite .., r, h => by cases h
def mkSeq (a b : L) : B := match litsO a, litsO b with
  | some x, some y => .lit (eqS x y)
  | _, _ => bif a.same b then .lit true else .seq a b
theorem mkSeq_den (ρ : Env) (a b : L) : (mkSeq a b).den ρ = eqS (a.den ρ) (b.den ρ) := by
  unfold mkSeq
  split
  · rename_i x y hx hy; rw [litsO_ok ρ hx, litsO_ok ρ hy]; rfl
  · cases h : a.same b with
    | true => rw [L.same_ok h]; simp [B.den, eqS]
    | false => rfl
def dbin (op : BinOp) (x y : V) : Option (V × List B) := match x, y with
  | .int k a, .int k' b =>
    if isShift op then some (.int k (mkBin op k a b), [mkNot (mkLt b (.lit 0))])
    else if k = k' then
      if isArith op then some (.int k (mkBin op k a b), [])
      else if isDiv op then some (.int k (mkBin op k a b), [mkNot (mkEq b (.lit 0))])
      else match cmpB op a b with
        | some r => some (.bool r, [])
        | none => none
    else none
  | .bool a, .bool b => match op with
    | .eql => some (.bool (mkEq (mkOfB a) (mkOfB b)), [])
    | .neq => some (.bool (mkNot (mkEq (mkOfB a) (mkOfB b))), [])
    | _ => none
  | .str a, .str b => match op with
    | .eql => some (.bool (mkSeq a b), [])
    | .neq => some (.bool (mkNot (mkSeq a b)), [])
    | _ => none
  | _, _ => none
theorem run_cmp {op : BinOp} {k : IntKind} {a b : E} {r : B} (h : cmpB op a b = some r) (t : TypeId) (x y : Operand) (w : World) :
    ((do eqGuard op t x y (.int k (a.den ρ)) (.int k (b.den ρ)); binOp op t (.int k (a.den ρ)) (.int k (b.den ρ)) : Sem Value)).run P w = .ok (.bool (r.den ρ)) w := by
  have hg : (eqGuard op t x y (.int k (a.den ρ)) (.int k (b.den ρ))).run P w = .ok () w := by unfold eqGuard; cases op <;> rfl
  rw [Sem.run_bind, hg]
  cases op <;> simp only [cmpB] at h <;> cases h <;> simp [binOp, Op.intCmp, mkNot_den, mkLt_den, mkEq_den, ltb_eq, eqb_eq]
  · rw [Bool.eq_iff_iff]; simp
  · rw [Bool.eq_iff_iff]; simp
  · rw [Bool.eq_iff_iff]; simp
theorem strOf_bytes (l : List Int) : (strOf l).toList.map (fun b => (b.toNat : Int)) = l.map byte := by
  unfold strOf
  rw [ByteArray.toList_eq]
  simp [byte, Function.comp_def]
theorem strOf_beq (l m : List Int) : ((strOf l).toList == (strOf m).toList) = eqS l m := by
  unfold eqS
  rw [Bool.eq_iff_iff]
  simp only [beq_iff_eq, decide_eq_true_eq]
  rw [← strOf_bytes, ← strOf_bytes]
  constructor
  · intro h; rw [h]
  · intro h
    exact (List.map_inj_right fun a b h => UInt8.toNat_inj.1 (by omega)).1 h
end
end Go.Proofs.Ytnklnboglijcbaa.E
