/- What a slice holds; append, make, copy; strings. Plain Lean over the kit's model; no program. -/
import Derived.Test.YtnklnboglijcbaaE10
namespace Go.Proofs.Ytnklnboglijcbaa.E
open Go Go.RowKit
set_option linter.unusedVariables false

section
variable {P : Program} {ρ : Env} {o : Oper} {fr : Fm} {n : Nat} {σ : Sto}

/-! ### a slice of an array's variable -/
def litE : E → Option Nat
  | .lit (.ofNat n) => some n
  | _ => none
theorem litE_ok {e : E} {n : Nat} (h : litE e = some n) : e = .lit (.ofNat n) := by
  unfold litE at h; split at h
  · cases h; rfl
  · cases h
/-- 'm' elements of 'k' cells each. -/
def cutA (m k : Nat) (lo hi : Nat) : V → Option (V × List B)
  | .ptr id i z c => match litE i with
    | some q => if Nat.ble lo hi && Nat.ble hi m && Nat.blt lo m then some (.sl id (q * z + c) (.lit (.ofNat lo)) (.lit (.ofNat (hi - lo))) k false, []) else none
    | none => none
  | .fe r i z c => match r.seg i z (c + lo * k) ((hi - lo) * k) with
    | some (cs, bs) => if Nat.blt lo hi && Nat.ble hi m && Nat.blt lo m && Nat.blt 0 k then some (.fs k (mkRow cs), bs) else none
    | none => none
  | _ => none
theorem Fr.seg {γ : Gm} {r : Row} {xs : List Value} {i : E} {z c k : Nat} {cs : List V} {bs : List B} (h : Fr r γ xs) (hs : r.seg i z c k = some (cs, bs)) (hb : ∀ b ∈ bs, b.den γ.env = true) :
    F2 (fun v x => F1 v γ x) cs ((xs.drop ((i.den γ.env).toNat * z + c)).take k) ∧ (0 < k → (i.den γ.env).toNat * z + c + k ≤ xs.length) := by
  obtain ⟨h1, h2⟩ := RH.seg (β := ⟨γ, fun _ => none⟩) (RH.ofFr h) hs hb
  refine ⟨h1.mono_mem fun v x hv hR => ?_, h2⟩
  -- among no names a cell is F1, or a function
  cases v with
  | fn f a b =>
    exfalso
    -- a frozen row holds no function
    have key : ∀ (vs : List V) (ys : List Value), Fs vs γ ys → ∀ f a b, V.fn f a b ∉ vs := by
      intro vs
      induction vs with
      | nil => intro ys _ f a b hm; cases hm
      | cons u vs ih =>
        intro ys hf f a b hm
        cases ys with
        | nil => unfold Fs at hf; exact hf
        | cons y ys =>
          unfold Fs at hf
          rcases List.mem_cons.1 hm with rfl | hm
          · have := hf.1; simp only [F1] at this
          · exact ih ys hf.2 f a b hm
    have inst : ∀ (vs : List V) (x : E) (f : Fn) (a b : List V), V.fn f a b ∈ V.insts vs x → V.fn f a b ∈ vs := by
      intro vs x f a b hm
      rw [V.insts_map] at hm
      obtain ⟨u, hu, he⟩ := List.mem_map.1 hm
      cases u <;> simp only [V.inst] at he <;> first | (cases he; done) | (cases he; exact hu)
    cases r with
    | any vs =>
      simp only [Fr] at h
      unfold Row.seg at hs
      simp only at hs
      split at hs
      · split at hs
        · cases hs; exact key vs xs h _ _ _ (List.mem_of_mem_drop (List.mem_of_mem_take hv))
        · cases hs
      · split at hs
        · cases hs; exact key vs xs h _ _ _ (List.mem_of_mem_drop (List.mem_of_mem_take hv))
        · cases hs
    | ints kd l =>
      have : ∀ (k c : Nat) (cs : List V) (bs : List B), segI kd l i z c k = some (cs, bs) → V.fn f a b ∉ cs := by
        intro k
        induction k with
        | zero => intro c cs bs h hm; cases h; cases hm
        | succ k ih =>
          intro c cs bs h hm
          unfold segI at h
          split at h
          · rename_i e cs' bs' he hr
            cases h
            rcases List.mem_cons.1 hm with hm | hm
            · cases hm
            · exact ih _ _ _ hr hm
          · cases h
      exact this _ _ _ _ hs hv
    | recs z' m t =>
      have h' : 0 ≤ m.den γ.env ∧ xs.length = (m.den γ.env).toNat * z' ∧ ∀ i : Nat, i < (m.den γ.env).toNat → Fs t (γ.at i) ((xs.drop (i * z')).take z') := by simpa only [Fr] using h
      unfold Row.seg at hs
      simp only at hs
      split at hs
      · cases hs
        have hi := inB_den (hb _ (List.mem_singleton.2 rfl))
        have hF := h'.2.2 _ (by omega : (i.den γ.env).toNat < (m.den γ.env).toNat)
        have hm := inst _ _ _ _ _ hv
        have hm := List.mem_of_mem_drop (List.mem_of_mem_take hm)
        have key' : ∀ (γ : Gm) (vs : List V) (ys : List Value), Fs vs γ ys → ∀ f a b, V.fn f a b ∉ vs := by
          intro γ vs
          induction vs with
          | nil => intro ys _ f a b hm; cases hm
          | cons u vs ih =>
            intro ys hf f a b hm
            cases ys with
            | nil => unfold Fs at hf; exact hf
            | cons y ys =>
              unfold Fs at hf
              rcases List.mem_cons.1 hm with rfl | hm
              · have := hf.1; simp only [F1] at this
              · exact ih ys hf.2 f a b hm
        exact key' _ _ _ hF _ _ _ hm
      · cases hs
  | ptr id i z c => obtain ⟨p, hp, _⟩ := (show R0 _ (.ptr id i z c) x from hR); cases hp
  | sl id co off len z top => obtain ⟨p, hp, _⟩ := (show R0 _ (.sl id co off len z top) x from hR); cases hp
  | _ => (simp only [R1, R0] at hR; exact hR)
theorem mkRow_fr {γ : Gm} {cs : List V} {xs : List Value} (h : F2 (fun v x => F1 v γ x) cs xs) : Fr (mkRow cs) γ xs := by
  have h' : F2 (R1 ⟨γ, fun _ => none⟩) cs xs := h.mono fun v x hv => (F1.up (β := ⟨γ, fun _ => none⟩) hv).up
  unfold mkRow
  split
  · split
    · rename_i hk
      split
      · rename_i es he
        obtain ⟨h1, h2⟩ := ints_F2 h' hk he
        simp only [Fr, colL_den, h1, List.map_map]
        rfl
      · simp only [Fr]; exact Fs_iff.2 h
    · simp only [Fr]; exact Fs_iff.2 h
  · simp only [Fr]; exact Fs_iff.2 h

theorem POp.cutArr {t e : TypeId} {x : Operand} {lo hi : Option Operand} {m k l h' : Nat} {v : V} {bs : List B} (h : o.op = .slice t x lo hi none) (hu : P.underlying t = some (.array m e)) (hk : sz P e = some k)
    (hlo : boundE fr (.lit 0) lo = some (.lit (.ofNat l))) (hhi : boundE fr (.lit (.ofNat m)) hi = some (.lit (.ofNat h'))) (hv : cutA m k l h' (opd fr x) = some (v, bs)) (hb : ∀ b ∈ bs, b.den ρ = true) : POp P ρ o fr v :=
  fun β a w hρ ho => by
    subst hρ
    have g1 := ho x (by rw [h]; simp [Op.operands])
    have fin : ∀ {b d : Nat}, a.eval x = .pointer (some ⟨b, d, none⟩) → l ≤ h' → h' ≤ m → l < m → (execOp a.eval o).run P w = .ok (.value (.slice (some ⟨b, d + l * k, none⟩) (h' - l) (m - l))) w := by
      intro b d e1 h1 h2 h3
      have hbd := run_bounds (P := P) (β := β) (a := a) (m := m) (c := m) (l := .lit (.ofNat l)) (h := .lit (.ofNat h')) (len := .lit (.ofNat m)) ho h rfl (Nat.le_refl m) hlo hhi (Int.natCast_nonneg l) (by simp [E.den]; omega) (by simp [E.den]; omega) false w
      simp only [E.den, Int.ofNat_eq_natCast, Int.toNat_natCast] at hbd
      unfold execOp; rw [h]
      have hml : ¬ m = l := by omega
      simp only [Instr.sliceAt, Sem.run_bind, run_underlying hu, Result.andThen_ok, e1, Instr.sureAddr, Sem.run_pure, Option.map_none, hbd, run_sz hk, if_neg hml, Addr.add_lit]
    unfold cutA at hv
    split at hv
    · rename_i id i z c hx
      split at hv
      · rename_i q hq
        obtain rfl := litE_ok hq
        split at hv
        · rename_i hc
          simp only [Bool.and_eq_true] at hc
          cases hv
          have h1 : l ≤ h' := Nat.le_of_ble_eq_true hc.1.1
          have h2 : h' ≤ m := Nat.le_of_ble_eq_true hc.1.2
          have h3 : l < m := Nat.le_of_ble_eq_true hc.2
          rw [hx] at g1
          obtain ⟨p, hp, e1⟩ := (show R0 β (.ptr id (.lit (.ofNat q)) z c) (a.eval x) from g1)
          refine ⟨_, fin e1 h1 h2 h3, some p, hp, Int.natCast_nonneg _, .inl ⟨p, _, m - l, rfl, rfl, .inl ?_, by simp [E.den]; omega, fun e => by cases e⟩⟩
          simp [E.den]
        · cases hv
      · cases hv
    · rename_i r i z c hx
      split at hv
      · rename_i cs bs' hseg
        split at hv
        · rename_i hc
          simp only [Bool.and_eq_true] at hc
          cases hv
          have h1 : l < h' := Nat.le_of_ble_eq_true hc.1.1.1
          have h2 : h' ≤ m := Nat.le_of_ble_eq_true hc.1.1.2
          have h3 : l < m := Nat.le_of_ble_eq_true hc.1.2
          have h4 : 0 < k := Nat.le_of_ble_eq_true hc.2
          rw [hx] at g1
          have g1 : F1 (.fe r i z c) β.g (a.eval x) := g1
          simp only [F1] at g1
          obtain ⟨xs, b, d, full, e1, k1, k2, k3⟩ := g1
          obtain ⟨s1, s2⟩ := k1.seg hseg hb
          have hpos : 0 < (h' - l) * k := Nat.mul_pos (by omega) h4
          have hfit := s2 hpos
          refine ⟨_, fin e1 (by omega) h2 h3, ?_⟩
          show F1 (.fs k (mkRow cs)) β.g _
          simp only [F1]
          refine ⟨_, h' - l, m - l, _, rfl, ?_, by omega, mkRow_fr s1, .inr ⟨b, _, rfl, .inr ⟨full, k2, ?_⟩⟩⟩
          · simp; omega
          · have hl : (List.take ((h' - l) * k) (List.drop ((i.den β.g.env).toNat * z + (c + l * k)) xs)).length = (h' - l) * k := by simp; omega
            rw [hl]
            rw [← k3, List.drop_take, List.take_take, List.drop_drop, Nat.min_eq_left (by omega)]
            congr 2
            omega
        · cases hv
      · cases hv
    · cases hv

/-! ### what a slice holds -/
def hiE : E → E → Option E
  | .lit (.ofNat 0), len => some len
  | .lit (.ofNat a), .lit (.ofNat b) => some (.lit (.ofNat (a + b)))
  | _, _ => none
theorem hiE_ok {ρ : Env} {off len e : E} (h : hiE off len = some e) : (e.den ρ).toNat = (off.den ρ).toNat + (len.den ρ).toNat := by
  unfold hiE at h
  split at h
  · cases h; simp [E.den]
  · cases h; simp [E.den]; omega
  · cases h
def mkByt (l : L) : L := match litsO l with
  | some is => litL (is.map byte)
  | none => .byt l
theorem mkByt_den (ρ : Env) (l : L) : (mkByt l).den ρ = (l.den ρ).map byte := by
  unfold mkByt
  split
  · rename_i is h; rw [litL_den, litsO_ok ρ h]
  · rfl
/-- the row of a slice, and how long it is. -/
def srcOf (σ : Sto) (z : Nat) : V → Option (Row × E × List B)
  | .sl id co off len z' _ => if Nat.beq z z' && Nat.blt 0 z then match σ id with
      | some ob => match co with
        | 0 => match hiE off len with
          | some hi => match ob.row.cut z off hi with
            | some (r, bs) => some (r, len, mkNot (mkLt len (.lit 0)) :: bs)
            | none => none
          | none => none
        | co => match litE off, litE len with
          | some a, some m => match ob.row.seg (.lit 0) 0 (co + a * z) (m * z) with
            | some (cs, bs) => some (mkRow cs, len, bs)
            | none => none
          | _, _ => none
      | none => none
    else none
  | .fs z' r => if Nat.beq z z' then match r.lenE z with
      | some e => some (r, e, [])
      | none => none
    else none
  | .sc (.slice none 0 0) => some (.any [], .lit 0, [])
  | .str l => if Nat.beq z 1 then some (.ints .u8 (mkByt l), mkLen l, []) else none
  | _ => none
theorem byteCells_strOf (l : List Int) : byteCells (strOf l) = (l.map byte).map (Value.int .u8) := by
  simp [byteCells, strOf, byte, Function.comp_def]
theorem src_ok {β : Bt} {w : World} {z : Nat} {v : V} {x : Value} {r : Row} {len : E} {bs : List B} {tx : TypeId} (hS : Sim ρ n β σ w) (hR : R β v x) (hs : srcOf σ z v = some (r, len, bs)) (hb : ∀ b ∈ bs, b.den ρ = true)
    (hk : (∃ e', P.underlying tx = some (.slice e')) ∨ P.underlying tx = some .string) : ∃ m xs, Src P z tx x m xs w ∧ len.den ρ = (m : Nat) ∧ RH β r xs := by
  have hρ := hS.env
  subst hρ
  have mk : ∀ (b d m c : Nat) (cur : Array Value) (et : TypeId) (fz : Nat × Nat) (xs : List Value), w.heap[b]? = some (.cells cur et fz) → xs.length = m * z → (cur.toList.drop d).take xs.length = xs → (∀ u ∈ xs, u.oneCell' = true) →
      Src P z tx (.slice (some ⟨b, d, none⟩) m c) m xs w := by
    intro b d m c cur et fz xs hg hl hx h1
    have hc : ∀ j u, xs[j]? = some u → w.cell? (Addr.add ⟨b, d, none⟩ j) = some u := by
      intro j u hu
      rw [← hx, List.getElem?_take] at hu
      split at hu
      · rw [List.getElem?_drop] at hu
        rw [Addr.add_lit, cell_of_row w b (d + j) cur et fz hg]
        simpa using hu
      · cases hu
    exact ⟨hk, fun _ => rfl, run_firstCells_some w z m _ m c xs hl hc, run_firstCells_some w.drew z m _ m c xs hl (by simpa using hc), hl, h1⟩
  have nil : ∀ (ad : Option Addr) (c : Nat), Src P z tx (.slice ad 0 c) 0 [] w := by
    intro ad c
    refine ⟨hk, fun _ => rfl, ?_, ?_, by simp, fun _ h => by cases h⟩
    · cases ad <;> simp [Builtin.firstCells, loadCells, loadCellsFrom]
    · cases ad <;> simp [Builtin.firstCells, loadCells, loadCellsFrom]
  unfold srcOf at hs
  split at hs
  · rename_i id co off len' z' top
    split at hs
    · rename_i hz
      simp only [Bool.and_eq_true] at hz
      obtain rfl := Nat.eq_of_beq_eq_true hz.1
      have hz0 : 0 < z := Nat.le_of_ble_eq_true hz.2
      split at hs
      · rename_i ob hob
        obtain ⟨q0, hq0, hok⟩ := hS.ob id ob hob
        obtain ⟨q, hq, hl0, hcase⟩ := (show R0 β (.sl id co off len' z top) x from hR)
        obtain rfl : q0 = q := Option.some.inj (hq0.symm.trans hq)
        split at hs
        · -- a whole row's slice
          split at hs
          · rename_i hi hhi
            split at hs
            · rename_i r' bs' hcut
              cases hs
              have hh := hiE_ok (ρ := β.g.env) hhi
              have hcb : ∀ b ∈ bs', b.den β.g.env = true := fun b hm => hb b (by simp [hm])
              rcases hcase with ⟨p, d, c, rfl, rfl, hd, hlc, htop⟩ | ⟨rfl, _, hof, hle, ad, rfl, hsp⟩
              · obtain ⟨hlt, cur, xs, rest, fz, hg, hsz, hcur, hRH, _⟩ := hok
                obtain ⟨k1, k2, k3, k4⟩ := Row.cut_rh hRH hcut hcb
                have hxl : ((xs.take ((hi.den β.g.env).toNat * z)).drop ((off.den β.g.env).toNat * z)).length = (len.den β.g.env).toNat * z := by
                  rw [List.length_drop, List.length_take, Nat.min_eq_left k4, hh, Nat.add_mul]; omega
                have hseg : (cur.toList.drop ((off.den β.g.env).toNat * z)).take ((len.den β.g.env).toNat * z) = (xs.take ((hi.den β.g.env).toNat * z)).drop ((off.den β.g.env).toNat * z) := by
                  rw [hcur, List.drop_append_of_le_length (by rw [hh, Nat.add_mul] at k4; omega), List.take_append_of_le_length (by rw [hh, Nat.add_mul] at k4; simp; omega), hh, Nat.add_mul, List.drop_take, Nat.add_sub_cancel_left]
                have hone : ∀ u ∈ (xs.take ((hi.den β.g.env).toNat * z)).drop ((off.den β.g.env).toNat * z), u.oneCell' = true := RH.one k1
                by_cases hm : (len.den β.g.env).toNat = 0
                · have he : (xs.take ((hi.den β.g.env).toNat * z)).drop ((off.den β.g.env).toNat * z) = [] := List.eq_nil_of_length_eq_zero (by rw [hxl, hm]; simp)
                  rw [he] at k1
                  rw [hm]
                  exact ⟨0, [], nil _ _, by omega, k1⟩
                · have hd' : d = (off.den β.g.env).toNat * z := by rcases hd with h | ⟨h, _⟩; omega; exact (hm h).elim
                  subst hd'
                  exact ⟨_, _, mk p.b _ _ c cur ob.e fz _ hg hxl (by rw [hxl]; exact hseg) hone, by omega, k1⟩
              · have hRH : RH β ob.row [] := hok
                obtain ⟨k1, k2, k3, k4⟩ := Row.cut_rh hRH hcut hcb
                refine ⟨0, [], nil _ _, by omega, ?_⟩
                simpa using k1
            · cases hs
          · cases hs
        · -- a part of a variable
          rename_i hco
          split at hs
          · rename_i aa m hao hml
            obtain rfl := litE_ok hao
            obtain rfl := litE_ok hml
            split at hs
            · rename_i cs bs' hseg
              cases hs
              rcases hcase with ⟨p, d, c, rfl, rfl, hd, hlc, htop⟩ | ⟨rfl, hc0, _⟩
              · obtain ⟨hlt, cur, xs, rest, fz, hg, hsz, hcur, hRH, _⟩ := hok
                obtain ⟨k1, k2⟩ := hRH.seg hseg hb
                simp only [E.den, Int.toNat_zero, Nat.zero_mul, Nat.zero_add] at k1 k2
                rw [← List.drop_take_pre hcur _ _ k2] at k1
                have hxl := k1.length
                have hcl : cs.length = m * z := by
                  have : ((cur.toList.drop (co + aa * z)).take (m * z)).length = m * z := by
                    rw [List.length_take, List.length_drop, hcur]
                    by_cases hm : m * z = 0
                    · omega
                    · have := k2 (by omega)
                      simp only [List.length_append]
                      omega
                  rw [hxl, this]
                have hd' : d = co + aa * z ∨ m = 0 := by
                  rcases hd with h | ⟨h, _⟩
                  · left; simpa [E.den] using h
                  · right; simpa [E.den] using h
                have hml : (((cur.toList.drop (co + aa * z)).take (m * z))).length = m * z := by rw [← hxl, hcl]
                have e0 : ((E.lit (.ofNat m)).den β.g.env).toNat = m := by simp [E.den]
                rw [e0]
                refine ⟨m, _, ?_, rfl, mkRow_ok k1⟩
                rcases hd' with rfl | rfl
                · exact mk p.b _ m c cur ob.e fz _ hg hml (by rw [hml]) (F2.one k1)
                · have : (List.take (0 * z) (List.drop (co + aa * z) cur.toList)) = [] := by simp
                  rw [this]; exact nil _ _
              · exact (hco hc0).elim
            · cases hs
          · cases hs
      · cases hs
    · cases hs
  · rename_i z' r'
    split at hs
    · rename_i hz
      obtain rfl := Nat.eq_of_beq_eq_true hz
      split at hs
      · rename_i e he
        cases hs
        have h1 := R_fs hR
        simp only [F1] at h1
        obtain ⟨xs, m, c, ad, rfl, h2, h3, h4, h5⟩ := h1
        obtain ⟨hz0, hn0, hlen⟩ := Row.lenE_ok (RH.ofFr h4) he
        have hm : m = (len.den β.g.env).toNat := Nat.eq_of_mul_eq_mul_right hz0 (h2.trans hlen)
        have hone : ∀ u ∈ xs, u.oneCell' = true := RH.one (RH.ofFr (β := β) h4)
        refine ⟨m, xs, ?_, by omega, RH.ofFr h4⟩
        have empty : m = 0 → xs = [] := fun h => List.eq_nil_of_length_eq_zero (by rw [← h2, h]; simp)
        rcases h5 with ⟨rfl, rfl, rfl⟩ | ⟨b, d, rfl, h6⟩
        · rw [empty rfl]; exact nil _ _
        · rcases h6 with rfl | ⟨cs, h6, h7⟩
          · rw [empty rfl]; exact nil _ _
          · obtain ⟨⟨et, f, hg⟩, _⟩ := hS.fzs b cs h6
            exact mk b d m c cs et f xs hg h2.symm h7 hone
      · cases hs
    · cases hs
  · cases hs
    rw [R_sc hR]
    exact ⟨0, [], nil none 0, rfl, trivial⟩
  · rename_i l
    split at hs
    · rename_i hz
      obtain rfl := Nat.eq_of_beq_eq_true hz
      cases hs
      rw [R_str hR]
      have hxl : byteCells (strOf (l.den β.g.env)) = ((l.den β.g.env).map byte).map (Value.int .u8) := byteCells_strOf _
      refine ⟨(strOf (l.den β.g.env)).size, byteCells (strOf (l.den β.g.env)), ?_, by rw [mkLen_den, strOf_size], ?_⟩
      · refine ⟨hk, fun _ => rfl, firstCells_string _ w, firstCells_string _ w.drew, by rw [byteCells_length, Nat.mul_one], fun u hu => ?_⟩
        obtain ⟨_, _, rfl⟩ := List.mem_map.1 hu
        rfl
      · rw [hxl]
        simp only [RH, Fr, mkByt_den]
    · cases hs
  · cases hs
where
  RH.one {β : Bt} {r : Row} {xs : List Value} (h : RH β r xs) : ∀ u ∈ xs, u.oneCell' = true := by
    cases r with
    | any cs => exact F2.one h
    | ints k l =>
      have hx : xs = (l.den β.g.env).map (.int k) := by simpa only [RH, Fr] using h
      subst hx
      intro u hu
      obtain ⟨_, _, rfl⟩ := List.mem_map.1 hu
      rfl
    | recs z m t =>
      have h' : 0 ≤ m.den β.g.env ∧ xs.length = (m.den β.g.env).toNat * z ∧ ∀ i : Nat, i < (m.den β.g.env).toNat → Fs t (β.g.at i) ((xs.drop (i * z)).take z) := by simpa only [RH, Fr] using h
      intro u hu
      obtain ⟨j, hj, rfl⟩ := List.mem_iff_getElem.1 hu
      have hz : 0 < z := by
        rcases Nat.eq_zero_or_pos z with h | h
        · rw [h'.2.1, h] at hj; simp at hj
        · exact h
      have hi : j / z < (m.den β.g.env).toNat := by
        rw [Nat.div_lt_iff_lt_mul hz, ← h'.2.1]; exact hj
      have hF := Fs_iff.1 (h'.2.2 (j / z) hi)
      have hmem : xs[j] ∈ ((xs.drop (j / z * z)).take z) := by
        have e1 : j / z * z + j % z = j := by rw [Nat.mul_comm]; exact Nat.div_add_mod j z
        have e2 : j % z < z := Nat.mod_lt _ hz
        rw [List.mem_iff_getElem?]
        refine ⟨j % z, ?_⟩
        rw [List.getElem?_take, if_pos e2, List.getElem?_drop, e1]
        simp [hj]
      obtain ⟨k, hk⟩ := List.mem_iff_getElem?.1 hmem
      obtain ⟨v, hv, hR⟩ := hF.getx k _ hk
      exact F1.one hR
end
end Go.Proofs.Ytnklnboglijcbaa.E
