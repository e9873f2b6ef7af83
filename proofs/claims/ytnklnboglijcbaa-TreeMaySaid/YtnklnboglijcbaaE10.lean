/- Slices are cut; what they hold. Plain Lean over the kit's model; no program. -/
import Derived.Test.YtnklnboglijcbaaE9
namespace Go.Proofs.Ytnklnboglijcbaa.E
open Go Go.RowKit
set_option linter.unusedVariables false

/-! ### parts of rows -/
def takeC : L → Nat → Option L
  | _, 0 => some .nil
  | .cons e l, n + 1 => match takeC l n with
    | some r => some (.cons e r)
    | none => none
  | _, _ => none
def dropC : L → Nat → Option L
  | l, 0 => some l
  | .cons _ l, n + 1 => dropC l n
  | _, _ => none
theorem takeC_ok (ρ : Env) : ∀ {l : L} {n : Nat} {r : L}, takeC l n = some r → r.den ρ = (l.den ρ).take n
  | l, 0, r, h => by unfold takeC at h; cases h; simp [L.den]
  | .cons e l, n + 1, r, h => by
    unfold takeC at h
    split at h
    · rename_i r' hr; cases h; simp [L.den, takeC_ok ρ hr]
    · cases h
  | .nil, n + 1, r, h | .var _, n + 1, r, h | .at .., n + 1, r, h | .cat .., n + 1, r, h | .cut .., n + 1, r, h | .sub .., n + 1, r, h | .set .., n + 1, r, h | .rep .., n + 1, r, h | .byt .., n + 1, r, h | .app .., n + 1, r, h | .ite .., n + 1, r, h => by unfold takeC at h; cases h
theorem dropC_ok (ρ : Env) : ∀ {l : L} {n : Nat} {r : L}, dropC l n = some r → r.den ρ = (l.den ρ).drop n
  | l, 0, r, h => by unfold dropC at h; cases h; simp
  | .cons e l, n + 1, r, h => by unfold dropC at h; simp [L.den, dropC_ok ρ h]
  | .nil, n + 1, r, h | .var _, n + 1, r, h | .at .., n + 1, r, h | .cat .., n + 1, r, h | .cut .., n + 1, r, h | .sub .., n + 1, r, h | .set .., n + 1, r, h | .rep .., n + 1, r, h | .byt .., n + 1, r, h | .app .., n + 1, r, h | .ite .., n + 1, r, h => by unfold dropC at h; cases h
def mkCut (l : L) (lo hi : E) : L := match lo, hi, l with
  | .lit (.ofNat a), .lit (.ofNat b), .sub l' o n => if Nat.ble b n && Nat.ble a b then .sub l' (o + a) (b - a) else .cut l lo hi
  | .lit (.ofNat a), .lit (.ofNat b), l => match takeC l b with
    | some r => match dropC r a with
      | some r' => r'
      | none => .cut l lo hi
    | none => .cut l lo hi
  | lo, hi, l => .cut l lo hi
theorem mkCut_den (ρ : Env) (l : L) (lo hi : E) : (mkCut l lo hi).den ρ = ((l.den ρ).take (hi.den ρ).toNat).drop (lo.den ρ).toNat := by
  unfold mkCut
  split
  · rename_i a b l' o n
    split
    · rename_i h
      simp only [Bool.and_eq_true] at h
      have h1 : b ≤ n := Nat.le_of_ble_eq_true h.1
      have h2 : a ≤ b := Nat.le_of_ble_eq_true h.2
      simp only [L.den, E.den, Int.ofNat_eq_natCast, Int.toNat_natCast, subL]
      apply List.ext_getElem?
      intro i
      simp only [List.getElem?_map, List.getElem?_drop, List.getElem?_take]
      by_cases hi : i < b - a
      · rw [List.getElem?_range hi, if_pos (by omega), List.getElem?_range (by omega)]
        simp [Nat.add_assoc]
      · rw [List.getElem?_eq_none (by simpa using hi)]
        by_cases h3 : a + i < b
        · omega
        · rw [if_neg h3]; rfl
    · rfl
  · split
    · rename_i r hr
      split
      · rename_i r' hr'
        rw [dropC_ok ρ hr', takeC_ok ρ hr]; rfl
      · rfl
    · rfl
  · rfl

/-- from an element on up to another one; what must hold. -/
def Row.cut (r : Row) (z : Nat) (lo hi : E) : Option (Row × List B) := match r with
  | .any cs => match lo, hi with
    | .lit (.ofNat a), .lit (.ofNat b) => if Nat.ble a b && Nat.ble (b * z) cs.length then some (.any ((cs.take (b * z)).drop (a * z)), []) else none
    | _, _ => none
  | .ints k l => if Nat.beq z 1 then
      if lo.same (.lit 0) && hi.same (mkLen l) then some (.ints k l, [])
      else some (.ints k (mkCut l lo hi), [mkNot (mkLt lo (.lit 0)), mkNot (mkLt hi lo), mkNot (mkLt (mkLen l) hi)])
    else none
  | .recs z' n t => if Nat.beq z z' && lo.same (.lit 0) then (if hi.same n then some (.recs z n t, []) else some (.recs z hi t, [mkNot (mkLt hi (.lit 0)), mkNot (mkLt n hi)])) else none
theorem nlt_den {ρ : Env} {a b : E} (h : (mkNot (mkLt a b)).den ρ = true) : b.den ρ ≤ a.den ρ := by
  rw [mkNot_den, mkLt_den, ltb_eq] at h
  simpa using h
theorem cut_all {α : Type} (xs : List α) (n : Nat) (h : xs.length = n) : (xs.take n).drop 0 = xs := by simp [← h]
theorem Row.cut_num {ρ : Env} {γ : Gm} {r r' : Row} {xs : List Value} {z : Nat} {lo hi : E} {bs : List B} (hρ : γ.env = ρ) (h : Fr r γ xs) (hn : ∀ cs, r ≠ .any cs) (hc : r.cut z lo hi = some (r', bs)) (hb : ∀ b ∈ bs, b.den ρ = true) :
    Fr r' γ ((xs.take ((hi.den ρ).toNat * z)).drop ((lo.den ρ).toNat * z)) ∧ 0 ≤ lo.den ρ ∧ lo.den ρ ≤ hi.den ρ ∧ (hi.den ρ).toNat * z ≤ xs.length := by
  subst hρ
  cases r with
  | any cs => exact (hn cs rfl).elim
  | ints k l =>
    have hx : xs = (l.den γ.env).map (.int k) := by simpa only [Fr] using h
    subst hx
    unfold Row.cut at hc
    simp only at hc
    split at hc
    · rename_i hz
      obtain rfl := Nat.eq_of_beq_eq_true hz
      split at hc
      · rename_i hs
        simp only [Bool.and_eq_true] at hs
        cases hc
        have e1 := E.same_ok hs.1
        have e2 := E.same_ok hs.2
        have e3 : lo.den γ.env = 0 := by rw [e1]; rfl
        have e4 : hi.den γ.env = ((l.den γ.env).length : Nat) := by rw [e2, mkLen_den]
        rw [e3, e4]
        refine ⟨?_, by omega, by omega, by simp⟩
        simp only [Fr]
        simp only [Int.toNat_natCast, Nat.mul_one, Int.toNat_zero, List.drop_zero]
        exact List.take_of_length_le (by simp)
      · cases hc
        have c1 := nlt_den (hb _ (by simp : mkNot (mkLt lo (.lit 0)) ∈ _))
        have c2 := nlt_den (hb _ (by simp : mkNot (mkLt hi lo) ∈ _))
        have c3 := nlt_den (hb _ (by simp : mkNot (mkLt (mkLen l) hi) ∈ _))
        rw [mkLen_den] at c3
        simp only [E.den] at c1
        refine ⟨?_, by omega, c2, by simp; omega⟩
        simp only [Fr, mkCut_den, Nat.mul_one]
        rw [List.map_drop, List.map_take]
    · cases hc
  | recs z' n t =>
    have h' : 0 ≤ n.den γ.env ∧ xs.length = (n.den γ.env).toNat * z' ∧ ∀ i : Nat, i < (n.den γ.env).toNat → Fs t (γ.at i) ((xs.drop (i * z')).take z') := by simpa only [Fr] using h
    unfold Row.cut at hc
    simp only at hc
    split at hc
    · rename_i hs
      simp only [Bool.and_eq_true] at hs
      obtain rfl := Nat.eq_of_beq_eq_true hs.1
      have e3 : lo.den γ.env = 0 := by rw [E.same_ok hs.2]; rfl
      have hh : r' = .recs z hi t ∧ 0 ≤ hi.den γ.env ∧ hi.den γ.env ≤ n.den γ.env := by
        split at hc
        · rename_i hsn
          obtain rfl := E.same_ok hsn
          cases hc
          exact ⟨rfl, h'.1, Int.le_refl _⟩
        · cases hc
          have c1 := nlt_den (hb _ (by simp : mkNot (mkLt hi (.lit 0)) ∈ _))
          have c2 := nlt_den (hb _ (by simp : mkNot (mkLt n hi) ∈ _))
          simp only [E.den] at c1
          exact ⟨rfl, c1, c2⟩
      obtain ⟨rfl, c1, c2⟩ := hh
      have hle : (hi.den γ.env).toNat * z ≤ xs.length := by rw [h'.2.1]; exact Nat.mul_le_mul_right _ (by omega)
      rw [e3]
      refine ⟨?_, by omega, by omega, hle⟩
      simp only [Fr]
      refine ⟨c1, by simp; omega, fun i hi' => ?_⟩
      have := h'.2.2 i (by omega)
      have e : ((((xs.take ((hi.den γ.env).toNat * z)).drop ((0 : Int).toNat * z)).drop (i * z)).take z) = (xs.drop (i * z)).take z := by
        simp only [Int.toNat_zero, Nat.zero_mul, List.drop_zero]
        rw [List.drop_take, List.take_take]
        congr 1
        have h1 : i * z + z ≤ (hi.den γ.env).toNat * z := by rw [← Nat.succ_mul]; exact Nat.mul_le_mul_right _ hi'
        omega
      rw [e]; exact this
    · cases hc
theorem Row.cut_any {ρ : Env} {q : V → Value → Prop} {cs : List V} {r' : Row} {xs : List Value} {z : Nat} {lo hi : E} {bs : List B} (h : F2 q cs xs) (hc : (Row.any cs).cut z lo hi = some (r', bs)) :
    ∃ ds, r' = .any ds ∧ F2 q ds ((xs.take ((hi.den ρ).toNat * z)).drop ((lo.den ρ).toNat * z)) ∧ 0 ≤ lo.den ρ ∧ lo.den ρ ≤ hi.den ρ ∧ (hi.den ρ).toNat * z ≤ xs.length := by
  unfold Row.cut at hc
  simp only at hc
  split at hc
  · rename_i a b
    split at hc
    · rename_i hs
      simp only [Bool.and_eq_true] at hs
      cases hc
      have h1 : a ≤ b := Nat.le_of_ble_eq_true hs.1
      have h2 : b * z ≤ cs.length := Nat.le_of_ble_eq_true hs.2
      have hl := h.length
      simp only [E.den, Int.ofNat_eq_natCast, Int.toNat_natCast]
      exact ⟨_, rfl, (h.take _).drop _, by omega, by omega, by omega⟩
    · cases hc
  · cases hc
theorem Row.cut_fr {γ : Gm} {r r' : Row} {xs : List Value} {z : Nat} {lo hi : E} {bs : List B} (h : Fr r γ xs) (hc : r.cut z lo hi = some (r', bs)) (hb : ∀ b ∈ bs, b.den γ.env = true) :
    Fr r' γ ((xs.take ((hi.den γ.env).toNat * z)).drop ((lo.den γ.env).toNat * z)) ∧ 0 ≤ lo.den γ.env ∧ lo.den γ.env ≤ hi.den γ.env ∧ (hi.den γ.env).toNat * z ≤ xs.length := by
  cases r with
  | any cs =>
    simp only [Fr] at h
    obtain ⟨ds, rfl, h1, h2⟩ := Row.cut_any (ρ := γ.env) (Fs_iff.1 h) hc
    exact ⟨by simp only [Fr]; exact Fs_iff.2 h1, h2⟩
  | ints k l => exact Row.cut_num rfl h (fun _ e => by cases e) hc hb
  | recs z' n t => exact Row.cut_num rfl h (fun _ e => by cases e) hc hb
theorem Row.cut_rh {β : Bt} {r r' : Row} {xs : List Value} {z : Nat} {lo hi : E} {bs : List B} (h : RH β r xs) (hc : r.cut z lo hi = some (r', bs)) (hb : ∀ b ∈ bs, b.den β.g.env = true) :
    RH β r' ((xs.take ((hi.den β.g.env).toNat * z)).drop ((lo.den β.g.env).toNat * z)) ∧ 0 ≤ lo.den β.g.env ∧ lo.den β.g.env ≤ hi.den β.g.env ∧ (hi.den β.g.env).toNat * z ≤ xs.length := by
  cases r with
  | any cs =>
    obtain ⟨ds, rfl, h1, h2⟩ := Row.cut_any (ρ := β.g.env) (show F2 (R1 β) cs xs from h) hc
    exact ⟨h1, h2⟩
  | ints k l =>
    obtain ⟨h1, h2⟩ := Row.cut_num (ρ := β.g.env) rfl (show Fr (.ints k l) β.g xs from h) (fun _ e => by cases e) hc hb
    exact ⟨RH.ofFr h1, h2⟩
  | recs z' n t =>
    obtain ⟨h1, h2⟩ := Row.cut_num (ρ := β.g.env) rfl (show Fr (.recs z' n t) β.g xs from h) (fun _ e => by cases e) hc hb
    exact ⟨RH.ofFr h1, h2⟩

/-! ### cuts of slices -/
def boundE (fr : Fm) (d : E) : Option Operand → Option E
  | none => some d
  | some y => match opd fr y with
    | .int _ e => some e
    | _ => none
def subE : E → E → E × List B
  | hi, .lit (.ofNat 0) => (hi, [])
  | .lit (.ofNat b), .lit (.ofNat a) => if Nat.ble a b then (.lit (.ofNat (b - a)), []) else (.bin .sub .i64 (.lit (.ofNat b)) (.lit (.ofNat a)), [.lit false])
  | hi, lo => (.bin .sub .i64 hi lo, [mkLt hi (.lit 4611686018427387904)])
theorem subE_ok {ρ : Env} {hi lo e : E} {bs : List B} (h : subE hi lo = (e, bs)) (hb : ∀ b ∈ bs, b.den ρ = true) (h0 : 0 ≤ lo.den ρ) (h1 : lo.den ρ ≤ hi.den ρ) : e.den ρ = hi.den ρ - lo.den ρ := by
  have gen : ∀ {hi lo : E}, 0 ≤ lo.den ρ → lo.den ρ ≤ hi.den ρ → (mkLt hi (.lit 4611686018427387904)).den ρ = true → (E.bin .sub .i64 hi lo).den ρ = hi.den ρ - lo.den ρ := by
    intro hi lo h0 h1 h2
    rw [mkLt_den, ltb_eq] at h2
    have h2 : hi.den ρ < 4611686018427387904 := of_decide_eq_true h2
    simp only [E.den, binI, IntKind.wrap_i64]
    omega
  unfold subE at h
  split at h
  · cases h; simp [E.den]
  · split at h
    · rename_i hab; cases h
      have := Nat.le_of_ble_eq_true hab
      simp only [E.den, Int.ofNat_eq_natCast]
      omega
    · cases h
      have := hb _ (List.mem_singleton.2 rfl)
      cases this
  · cases h
    exact gen h0 h1 (hb _ (List.mem_singleton.2 rfl))
def offE : E → E → Option E
  | .lit (.ofNat 0), lo => some lo
  | off, .lit (.ofNat 0) => some off
  | .lit (.ofNat a), .lit (.ofNat b) => some (.lit (.ofNat (a + b)))
  | _, _ => none
theorem offE_ok {ρ : Env} {off lo e : E} (h : offE off lo = some e) : (e.den ρ).toNat = (off.den ρ).toNat + (lo.den ρ).toNat := by
  unfold offE at h
  split at h
  · cases h; simp [E.den]
  · cases h; simp [E.den]
  · cases h; simp [E.den]; omega
  · cases h
/-- a slice, cut. -/
def cutV (z : Nat) (v : V) (lo hi : Option E) : Option (V × List B) := match lenV v with
  | none => none
  | some len =>
    let l := lo.getD (.lit 0)
    let h := hi.getD len
    match v with
    | .fs z' r => if Nat.beq z z' then match r.cut z l h with
        | some (r', bs) => some (.fs z r', bs)
        | none => none
      else none
    | .sl id co off len' z' top => if Nat.beq z z' then match offE off l with
        | some off' => match subE h l with
          | (n, bs) => some (.sl id co off' n z (top && l.same (.lit 0)), mkNot (mkLt l (.lit 0)) :: mkNot (mkLt h l) :: mkNot (mkLt len' h) :: bs)
        | none => none
      else none
    | .sc (.slice none 0 0) => if l.same (.lit 0) && h.same (.lit 0) then some (.sc (.slice none 0 0), []) else none
    | _ => none
section
variable {P : Program} {ρ : Env} {o : Oper} {fr : Fm} {n : Nat} {σ : Sto}
theorem run_bounds {β : Bt} {a : Act} {x : Operand} {t : TypeId} {lo hi : Option Operand} {m c : Nat} {l h len : E} (ho : ∀ y ∈ o.op.operands, R β (opd fr y) (a.eval y)) (hop : o.op = .slice t x lo hi none) (hlen : len.den β.g.env = m) (hmc : m ≤ c)
    (hl : boundE fr (.lit 0) lo = some l) (hh : boundE fr len hi = some h) (h0 : 0 ≤ l.den β.g.env) (h1 : l.den β.g.env ≤ h.den β.g.env) (h2 : h.den β.g.env ≤ c) (isS : Bool) (w : World) :
    (Instr.sliceBounds isS m c (lo.map a.eval) (hi.map a.eval) none).run P w = .ok ((l.den β.g.env).toNat, (h.den β.g.env).toNat, c) w := by
  have glo : ∀ y, lo = some y → ∃ k, a.eval y = .int k (l.den β.g.env) := fun y hy => by
    subst hy
    have := ho y (by rw [hop]; simp [Op.operands])
    simp only [boundE] at hl
    split at hl
    · rename_i k e he; cases hl; rw [he] at this; exact ⟨k, R_int this⟩
    · cases hl
  have ghi : ∀ y, hi = some y → ∃ k, a.eval y = .int k (h.den β.g.env) := fun y hy => by
    subst hy
    have := ho y (by rw [hop]; simp [Op.operands])
    simp only [boundE] at hh
    split at hh
    · rename_i k e he; cases hh; rw [he] at this; exact ⟨k, R_int this⟩
    · cases hh
  have e1 : (Instr.sliceBounds isS m c (lo.map a.eval) (hi.map a.eval) none).run P w = .ok ((l.den β.g.env).toNat, (h.den β.g.env).toNat, c) w := by
    cases hi with
    | none =>
      have hh' : h = len := by simp only [boundE] at hh; cases hh; rfl
      subst hh'
      cases lo with
      | none =>
        have hl' : l = .lit 0 := by simp only [boundE] at hl; cases hl; rfl
        subst hl'
        simp [Instr.sliceBounds, hlen, E.den]
      | some y =>
        obtain ⟨k, hk⟩ := glo y rfl
        rw [hlen] at h1
        simp [Instr.sliceBounds, Instr.sliceBound, asIntOf, hk, h0, h1, hlen]
    | some y =>
      obtain ⟨k, hk⟩ := ghi y rfl
      have h3 : 0 ≤ h.den β.g.env := by omega
      cases lo with
      | none =>
        have hl' : l = .lit 0 := by simp only [boundE] at hl; cases hl; rfl
        subst hl'
        simp [Instr.sliceBounds, Instr.sliceBound, asIntOf, hk, h3, h2, E.den]
      | some y' =>
        obtain ⟨k', hk'⟩ := glo y' rfl
        have h4 : l.den β.g.env ≤ ((h.den β.g.env).toNat : Nat) := by omega
        have h5 : 0 ≤ l.den β.g.env ∧ l.den β.g.env ≤ ((h.den β.g.env).toNat : Nat) := ⟨h0, h4⟩
        have h6 : 0 ≤ h.den β.g.env ∧ h.den β.g.env ≤ (c : Nat) := ⟨h3, h2⟩
        simp only [Instr.sliceBounds, Option.map_some, Instr.sliceBound, Sem.run_bind, hk, asIntOf, Sem.run_pure, Result.andThen_ok, hk', if_pos h6, if_pos h5]
  exact e1

theorem POp.cut {t e : TypeId} {x : Operand} {lo hi : Option Operand} {z : Nat} {len : E} {v : V} {lo' hi' : Option E} {bs : List B} (h : o.op = .slice t x lo hi none) (hu : P.underlying t = some (.slice e)) (hz : sz P e = some z)
    (hlen : lenV (opd fr x) = some len) (hlo : boundE fr (.lit 0) lo = some (lo'.getD (.lit 0))) (hhi : boundE fr len hi = some (hi'.getD len)) (hv : cutV z (opd fr x) lo' hi' = some (v, bs)) (hb : ∀ b ∈ bs, b.den ρ = true) : POp P ρ o fr v :=
  fun β a w hρ ho => by
    subst hρ
    have g1 := ho x (by rw [h]; simp [Op.operands])
    unfold cutV at hv
    rw [hlen] at hv
    simp only at hv
    generalize hl : lo'.getD (E.lit 0) = l at hv hlo
    generalize hh : hi'.getD len = hE at hv hhi
    have fin : ∀ {ad : Option Addr} {m c : Nat}, a.eval x = .slice ad m c → (Instr.sliceBounds true m c (lo.map a.eval) (hi.map a.eval) none).run P w = .ok ((l.den β.g.env).toNat, (hE.den β.g.env).toNat, c) w →
        (execOp a.eval o).run P w = .ok (.value (.slice (if c = (l.den β.g.env).toNat then ad else ad.map (·.add ((l.den β.g.env).toNat * z))) ((hE.den β.g.env).toNat - (l.den β.g.env).toNat) (c - (l.den β.g.env).toNat))) w := by
      intro ad m c e1 hbd
      unfold execOp; rw [h]
      simp only [Instr.sliceAt, Sem.run_bind, run_underlying hu, Result.andThen_ok, e1, Instr.slice, Option.map_none, hbd, run_sz hz, Sem.run_pure]
    split at hv
    · rename_i z' r hx
      split at hv
      · rename_i hzz
        obtain rfl := Nat.eq_of_beq_eq_true hzz
        split at hv
        · rename_i r' bs' hc
          cases hv
          rw [hx] at g1 hlen
          have h1 := R_fs g1
          simp only [F1] at h1
          obtain ⟨xs, m, c, ad, e1, h2, h3, h4, h5⟩ := h1
          obtain ⟨hz0, hn0, hlen'⟩ := Row.lenE_ok (RH.ofFr h4) (show r.lenE z = some len from hlen)
          have hm : m = (len.den β.g.env).toNat := Nat.eq_of_mul_eq_mul_right hz0 (h2.trans hlen')
          obtain ⟨k1, k2, k3, k4⟩ := Row.cut_fr h4 hc hb
          have hhm : hE.den β.g.env ≤ m := by
            have : (hE.den β.g.env).toNat ≤ m := Nat.le_of_mul_le_mul_right (by rw [h2]; exact k4) hz0
            omega
          have hbd := run_bounds (P := P) ho h (by omega : len.den β.g.env = m) h3 hlo hhi k2 k3 (by omega) true w
          refine ⟨_, fin e1 hbd, ?_⟩
          show F1 (.fs z r') β.g _
          simp only [F1]
          have hxl : ((xs.take ((hE.den β.g.env).toNat * z)).drop ((l.den β.g.env).toNat * z)).length = ((hE.den β.g.env).toNat - (l.den β.g.env).toNat) * z := by
            simp [Nat.sub_mul]; omega
          refine ⟨_, _, _, _, rfl, hxl.symm, by omega, k1, ?_⟩
          rcases h5 with ⟨rfl, rfl, rfl⟩ | ⟨b, d, rfl, h6⟩
          · left
            refine ⟨by simp, by omega, by omega⟩
          · right
            by_cases hcl : c = (l.den β.g.env).toNat
            · rw [if_pos hcl]
              exact ⟨b, d, rfl, .inl (by omega)⟩
            · rw [if_neg hcl]
              refine ⟨b, d + (l.den β.g.env).toNat * z, by simp [Addr.add_lit], ?_⟩
              rcases h6 with h6 | ⟨cs, h6, h7⟩
              · left; omega
              · right
                refine ⟨cs, h6, ?_⟩
                rw [hxl]
                rw [← h7, List.take_take, Nat.min_eq_left (by rw [← h2]; exact Nat.mul_le_mul_right _ (by omega)), List.drop_take, List.drop_drop, Nat.sub_mul]
        · cases hv
      · cases hv
    · rename_i id co off len' z' top hx
      split at hv
      · rename_i hzz
        obtain rfl := Nat.eq_of_beq_eq_true hzz
        split at hv
        · rename_i off' hoff
          generalize hsub : subE hE l = nb at hv
          obtain ⟨ne, bs'⟩ := nb
          simp only at hv
          cases hv
          rw [hx] at g1 hlen
          have hll : len' = len := by simp only [lenV] at hlen; cases hlen; rfl
          subst hll
          have c1 := nlt_den (hb _ (by simp : mkNot (mkLt l (.lit 0)) ∈ _))
          have c2 := nlt_den (hb _ (by simp : mkNot (mkLt hE l) ∈ _))
          have c3 := nlt_den (hb _ (by simp : mkNot (mkLt len' hE) ∈ _))
          simp only [E.den] at c1
          have hne := subE_ok hsub (fun b hm => hb b (by simp [hm])) c1 c2
          have ho' := offE_ok (ρ := β.g.env) hoff
          obtain ⟨q, hq, hl0, hcase⟩ := (show R0 β (.sl id co off len' z top) (a.eval x) from g1)
          rcases hcase with ⟨p, d, c, rfl, e1, hd, hlc, htop⟩ | ⟨rfl, hco, hof, hle, ad, e1, hsp⟩
          · have hbd := run_bounds (P := P) ho h (by omega : len'.den β.g.env = (len'.den β.g.env).toNat) hlc hlo hhi c1 c2 (by omega) true w
            refine ⟨_, fin e1 hbd, ?_⟩
            refine ⟨some p, hq, by omega, .inl ?_⟩
            by_cases hcl : c = (l.den β.g.env).toNat
            · rw [if_pos hcl]
              refine ⟨p, d, c - (l.den β.g.env).toNat, rfl, by rw [hne]; congr 1; omega, ?_, by omega, fun ht => ?_⟩
              · by_cases hl1 : (l.den β.g.env) = 0
                · rw [ho', hl1]
                  rcases hd with hd | ⟨hd, ht⟩
                  · left; simpa using hd
                  · right; exact ⟨by omega, by simp [ht]⟩
                · right
                  refine ⟨by omega, ?_⟩
                  cases hs : l.same (.lit 0) with
                  | false => simp
                  | true => exact (hl1 (by rw [E.same_ok hs]; rfl)).elim
              · simp only [Bool.and_eq_true] at ht
                have hl1 : l.den β.g.env = 0 := by rw [E.same_ok ht.2]; rfl
                obtain ⟨t1, t2, t3, t4⟩ := htop ht.1
                refine ⟨t1, by rw [ho', hl1]; simpa using t2, by rw [hl1]; simpa using t3, by omega⟩
            · rw [if_neg hcl]
              refine ⟨p, d + (l.den β.g.env).toNat * z, c - (l.den β.g.env).toNat, rfl, by simp [Addr.add_lit]; omega, ?_, by omega, fun ht => ?_⟩
              · rcases hd with hd | ⟨hd, ht⟩
                · left; rw [ho', hd, Nat.add_mul]; omega
                · right; exact ⟨by omega, by simp [ht]⟩
              · simp only [Bool.and_eq_true] at ht
                have hl1 : l.den β.g.env = 0 := by rw [E.same_ok ht.2]; rfl
                obtain ⟨t1, t2, t3, t4⟩ := htop ht.1
                refine ⟨t1, by rw [ho', hl1]; simpa using t2, by rw [hl1]; simpa using t3, by omega⟩
          · have hm0 : len'.den β.g.env = ((0 : Nat) : Int) := by omega
            have hbd := run_bounds (P := P) (m := 0) (c := 0) ho h hm0 (Nat.le_refl 0) hlo hhi c1 c2 (by omega) true w
            refine ⟨_, fin e1 hbd, ?_⟩
            refine ⟨none, hq, by omega, .inr ⟨rfl, hco, by rw [ho']; omega, by omega, ad, ?_, hsp⟩⟩
            have hl1 : (l.den β.g.env).toNat = 0 := by omega
            rw [hl1]
            simp
            omega
        · cases hv
      · cases hv
    · rename_i hx
      split at hv
      · rename_i hc
        simp only [Bool.and_eq_true] at hc
        cases hv
        rw [hx] at g1 hlen
        have e1 := R_sc g1
        have hl0 := E.same_ok hc.1
        have hh0 := E.same_ok hc.2
        have hbd := run_bounds (P := P) (m := 0) (c := 0) (len := .lit 0) ho h rfl (Nat.le_refl 0) hlo (by simp only [lenV] at hlen; cases hlen; exact hhi) (by rw [hl0]; exact Int.le_refl _) (by rw [hl0, hh0]; exact Int.le_refl _) (by rw [hh0]; exact Int.le_refl _) true w
        have := fin e1 hbd
        rw [hl0, hh0] at this
        exact ⟨_, this, by simpa [E.den, e1] using g1⟩
      · cases hv
    · cases hv
end
end Go.Proofs.Ytnklnboglijcbaa.E
