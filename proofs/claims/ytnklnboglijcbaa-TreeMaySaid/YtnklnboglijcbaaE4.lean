/- Letters put together shortly; parts of rows; one operation at a time. Plain Lean over the kit's model; no program. -/
import Derived.Test.YtnklnboglijcbaaE30
import Derived.Laws.CopyRow
import Derived.Laws.IdiomCopy
import Derived.RowKit3
import Derived.Control
import Derived.LoopN
import Derived.Tactics
namespace Go.Proofs.Ytnklnboglijcbaa.E
open Go Go.RowKit
set_option linter.unusedVariables false

/-! ### short forms -/
def mkLt : E → E → B
  | .lit a, .lit b => .lit (ltb a b)
  | a, b => match ltR (rng 5 a) (rng 5 b) with
    | some t => .lit t
    | none => bif a.same b then .lit false else .lt a b
def isT : Option Bool → Bool
  | some t => t
  | none => false
theorem isT_ok {o : Option Bool} (h : isT o = true) : o = some true := by
  cases o with
  | none => cases h
  | some t => cases t <;> first | rfl | cases h
def mkNot : B → B
  | .lit b => .lit (!b)
  | .not b => b
  | b => .not b
def mkAnd : B → B → B
  | .lit true, b => b
  | .lit false, _ => .lit false
  | a, .lit true => a
  | _, .lit false => .lit false
  | a, b => .and a b
theorem mkNot_den (ρ : Env) (a : B) : (mkNot a).den ρ = !a.den ρ := by unfold mkNot; split <;> simp [B.den]
theorem mkAnd_den (ρ : Env) (a b : B) : (mkAnd a b).den ρ = (a.den ρ && b.den ρ) := by
  unfold mkAnd; split <;> simp [B.den]
/-- are two truths one? -/
def mkIff (a b : B) : B := match a, b with
  | .lit true, b => b
  | .lit false, b => mkNot b
  | a, .lit true => a
  | a, .lit false => mkNot a
  | a, b => mkNot (mkAnd (mkNot (mkAnd a b)) (mkNot (mkAnd (mkNot a) (mkNot b))))
theorem mkIff_den (ρ : Env) (a b : B) : (mkIff a b).den ρ = (a.den ρ == b.den ρ) := by
  unfold mkIff
  split <;> simp only [mkNot_den, mkAnd_den, B.den] <;> first | (cases B.den ρ _ <;> rfl) | (cases B.den ρ _ <;> cases B.den ρ _ <;> rfl)
theorem eqb_b2i' (a b : Bool) : eqb (b2i a) (b2i b) = (a == b) := by cases a <;> cases b <;> rfl
def mkEq : E → E → B
  | .lit a, .lit b => .lit (eqb a b)
  | .ofB a, .ofB b => bif a.same b then .lit true else mkIff a b
  | .lit (.ofNat n), .ofB b => bif Nat.beq n 0 then mkNot b else bif Nat.beq n 1 then b else .lit false
  | .ofB b, .lit (.ofNat n) => bif Nat.beq n 0 then mkNot b else bif Nat.beq n 1 then b else .lit false
  | a, b => bif a.same b then .lit true else bif isT (ltR (rng 5 a) (rng 5 b)) || isT (ltR (rng 5 b) (rng 5 a)) then .lit false else .eq a b
theorem b2i_n (n : Nat) (t : Bool) : eqb (.ofNat n) (b2i t) = bif Nat.beq n 0 then !t else bif Nat.beq n 1 then t else false := by
  match n with
  | 0 => cases t <;> rfl
  | 1 => cases t <;> rfl
  | n + 2 => cases t <;> rfl
theorem eqb_comm (a b : Int) : eqb a b = eqb b a := by rw [eqb_eq, eqb_eq, Bool.eq_iff_iff, beq_iff_eq, beq_iff_eq]; exact ⟨Eq.symm, Eq.symm⟩
theorem mkBit_den (ρ : Env) (n : Nat) (b : B) : (bif Nat.beq n 0 then mkNot b else bif Nat.beq n 1 then b else B.lit false).den ρ = eqb (.ofNat n) (b2i (b.den ρ)) := by
  rw [b2i_n]
  cases Nat.beq n 0 <;> cases Nat.beq n 1 <;> simp [mkNot_den, B.den]
theorem mkLt_den (ρ : Env) (a b : E) : (mkLt a b).den ρ = ltb (a.den ρ) (b.den ρ) := by
  unfold mkLt
  split
  · rfl
  · split
    · rename_i t ht; exact (ltR_ok (rng_ok ρ 5 _) (rng_ok ρ 5 _) ht).symm
    · cases h : E.same _ _ with
      | true => rw [E.same_ok h, ltb_eq]; simp [B.den]
      | false => rfl
theorem mkEq_den (ρ : Env) (a b : E) : (mkEq a b).den ρ = eqb (a.den ρ) (b.den ρ) := by
  unfold mkEq
  split
  · rfl
  · simp only [E.den, eqb_b2i']
    cases h : B.same _ _ with
    | true => rw [B.same_ok h]; simp [B.den]
    | false => exact mkIff_den ρ _ _
  · exact mkBit_den ρ _ _
  · rw [mkBit_den, eqb_comm]; rfl
  · cases h : E.same _ _ with
    | true => rw [E.same_ok h, eqb_eq]; simp [B.den]
    | false =>
      rw [cond_false]
      cases hq : isT (ltR (rng 5 _) (rng 5 _)) || isT (ltR (rng 5 _) (rng 5 _)) with
      | false => rfl
      | true =>
        rw [cond_true, eqb_eq]
        simp only [B.den]
        rcases (Bool.or_eq_true _ _).mp hq with hq | hq
        · have := ltR_ok (rng_ok ρ 5 _) (rng_ok ρ 5 _) (isT_ok hq)
          rw [ltb_eq] at this; simp at this
          symm; simp; omega
        · have := ltR_ok (rng_ok ρ 5 _) (rng_ok ρ 5 _) (isT_ok hq)
          rw [ltb_eq] at this; simp at this
          symm; simp; omega
def andsB : List B → B
  | [] => .lit true
  | b :: l => mkAnd b (andsB l)
theorem andsB_den (ρ : Env) : ∀ l : List B, (andsB l).den ρ = true ↔ ∀ b ∈ l, b.den ρ = true
  | [] => by simp [andsB, B.den]
  | b :: l => by simp [andsB, mkAnd_den, andsB_den ρ l]

/-- how long, where that is written. -/
def lenLit : L → Option Nat
  | .nil => some 0
  | .cons _ l => match lenLit l with
    | some n => some (n + 1)
    | none => none
  | .cat a b => match lenLit a, lenLit b with
    | some n, some m => some (n + m)
    | _, _ => none
  | .sub _ _ n => some n
  | .set l _ _ => lenLit l
  | .rep (.lit (.ofNat n)) _ => some n
  | .byt l => lenLit l
  | _ => none
theorem lenLit_ok (ρ : Env) : ∀ {l : L} {n : Nat}, lenLit l = some n → (l.den ρ).length = n
  | .nil, n, h => by cases h; rfl
  | .cons e l, n, h => by
    unfold lenLit at h
    split at h
    · rename_i m hm; cases h; simp [L.den, lenLit_ok ρ hm]
    · cases h
  | .cat a b, n, h => by
    unfold lenLit at h
    split at h
    · rename_i m k hm hk; cases h; simp [L.den, lenLit_ok ρ hm, lenLit_ok ρ hk]
    · cases h
  | .sub l o m, n, h => by unfold lenLit at h; cases h; simp [L.den, subL]
  | .set l i x, n, h => by unfold lenLit at h; simp [L.den, lenLit_ok ρ h]
  | .rep (.lit (.ofNat m)) x, n, h => by unfold lenLit at h; cases h; simp [L.den, E.den]
  | .byt l, n, h => by unfold lenLit at h; simp [L.den, lenLit_ok ρ h]
  | .rep (.lit (.negSucc m)) x, n, h => by unfold lenLit at h; cases h
  | .rep (.var _) _, n, h | .rep .ix _, n, h | .rep (.bin ..) _, n, h | .rep (.un ..) _, n, h | .rep (.conv ..) _, n, h | .rep (.get ..) _, n, h | .rep (.len _) _, n, h | .rep (.cnt _) _, n, h | .rep (.ofB _) _, n, h | .rep (.ite ..) _, n, h => by unfold lenLit at h; cases h
  | .var _, n, h | .at .., n, h | .cut .., n, h | .app .., n, h | .ite .., n, h => by unfold lenLit at h; cases h
def mkLen (l : L) : E := match lenLit l with
  | some n => .lit (.ofNat n)
  | none => .len l
theorem mkLen_den (ρ : Env) (l : L) : (mkLen l).den ρ = ((l.den ρ).length : Nat) := by
  unfold mkLen
  split
  · rename_i n h; rw [lenLit_ok ρ h]; rfl
  · rfl

/-- an element whose place is written. -/
def getN : L → Nat → E
  | .cons e _, 0 => e
  | .cons _ l, i + 1 => getN l i
  | .cat a b, i => match lenLit a with
    | some n => if Nat.blt i n then getN a i else getN b (i - n)
    | none => .get (.cat a b) (.lit (.ofNat i))
  | .sub l o n, i => if Nat.blt i n then getN l (o + i) else .lit 0
  | .set l (.lit (.ofNat j)) x, i => if Nat.beq i j then (match lenLit l with | some n => if Nat.blt i n then x else .lit 0 | none => .get (.set l (.lit (.ofNat j)) x) (.lit (.ofNat i))) else getN l i
  | .rep (.lit (.ofNat n)) x, i => if Nat.blt i n then x else .lit 0
  | l, i => .get l (.lit (.ofNat i))
theorem getN_den (ρ : Env) : ∀ (l : L) (i : Nat), (getN l i).den ρ = (l.den ρ).getD i 0
  | .cons e _, 0 => by simp [getN, L.den]
  | .cons _ l, i + 1 => by simp [getN, L.den, getN_den ρ l i]
  | .cat a b, i => by
    unfold getN
    split
    · rename_i n hn
      have hl := lenLit_ok ρ hn
      split
      · rename_i h
        have h : i < n := Nat.le_of_ble_eq_true h
        rw [getN_den ρ a i]
        simp [L.den, List.getD, List.getElem?_append, hl, h]
      · rename_i h
        have h : ¬ i < n := fun hc => h (Nat.ble_eq_true_of_le hc)
        rw [getN_den ρ b (i - n)]
        simp [L.den, List.getD, List.getElem?_append, hl, h]
    · rfl
  | .sub l o n, i => by
    unfold getN
    split
    · rename_i h
      have h : i < n := Nat.le_of_ble_eq_true h
      rw [getN_den ρ l (o + i)]
      simp [L.den, subL, List.getD, h]
    · rename_i h
      have h : ¬ i < n := fun hc => h (Nat.ble_eq_true_of_le hc)
      simp [L.den, E.den, subL, List.getD, h]
  | .set l (.lit (.ofNat j)) x, i => by
    unfold getN
    split
    · rename_i h
      obtain rfl := Nat.eq_of_beq_eq_true h
      split
      · rename_i n hn
        have hl := lenLit_ok ρ hn
        split
        · rename_i h
          have h : i < n := Nat.le_of_ble_eq_true h
          simp [L.den, E.den, List.getD, hl, h]
        · rename_i h
          have h : ¬ i < n := fun hc => h (Nat.ble_eq_true_of_le hc)
          simp [L.den, E.den, List.getD, hl, h]
      · simp [E.den]
    · rename_i h
      have h : ¬ i = j := fun hc => h (by rw [hc]; exact Nat.beq_refl j)
      rw [getN_den ρ l i]
      simp [L.den, E.den, List.getD, Ne.symm h]
  | .rep (.lit (.ofNat n)) x, i => by
    unfold getN
    split
    · rename_i h
      have h : i < n := Nat.le_of_ble_eq_true h
      simp [L.den, E.den, List.getD, h]
    · rename_i h
      have h : ¬ i < n := fun hc => h (Nat.ble_eq_true_of_le hc)
      simp [L.den, E.den, List.getD, h]
  | .set l (.lit (.negSucc m)) x, i => by simp [getN, E.den]
  | .set l (.var _) x, i | .set l .ix x, i | .set l (.bin ..) x, i | .set l (.un ..) x, i | .set l (.conv ..) x, i | .set l (.get ..) x, i | .set l (.len _) x, i | .set l (.cnt _) x, i | .set l (.ofB _) x, i | .set l (.ite ..) x, i => by simp [getN, E.den]
  | .rep (.lit (.negSucc m)) x, i => by simp [getN, E.den]
  | .rep (.var _) x, i | .rep .ix x, i | .rep (.bin ..) x, i | .rep (.un ..) x, i | .rep (.conv ..) x, i | .rep (.get ..) x, i | .rep (.len _) x, i | .rep (.cnt _) x, i | .rep (.ofB _) x, i | .rep (.ite ..) x, i => by simp [getN, E.den]
  | .nil, i | .var _, i | .at .., i | .cut .., i | .app .., i | .ite .., i | .byt .., i => by simp [getN, E.den]
def mkGet (l : L) : E → E
  | .lit (.ofNat i) => getN l i
  | i => .get l i
theorem mkGet_den (ρ : Env) (l : L) (i : E) : (mkGet l i).den ρ = (l.den ρ).getD (i.den ρ).toNat 0 := by
  unfold mkGet
  split
  · rw [getN_den]; rfl
  · rfl

/-- is a number the place of one of so many? -/
def inB (i n : E) : B := mkAnd (mkNot (mkLt i (.lit 0))) (mkLt i n)
theorem inB_den {ρ : Env} {i n : E} (h : (inB i n).den ρ = true) : 0 ≤ i.den ρ ∧ i.den ρ < n.den ρ := by
  simp only [inB, mkAnd_den, mkNot_den, mkLt_den, ltb_eq, Bool.and_eq_true, Bool.not_eq_true', decide_eq_false_iff_not, decide_eq_true_eq, E.den] at h
  exact ⟨by omega, h.2⟩

/-! ### another index -/
mutual
def V.inst (v : V) (x : E) : V := match v with
  | .int k e => .int k (e.inst x)
  | .bool b => .bool (b.inst x)
  | .str l => .str (l.inst x)
  | .fs z r => .fs z (Row.inst r x)
  | .fe r i z c => .fe (Row.inst r x) (i.inst x) z c
  | .key c s => .key c (s.inst x)
  | v => v
termination_by structural v
def V.insts (vs : List V) (x : E) : List V := match vs with
  | [] => []
  | v :: vs => V.inst v x :: V.insts vs x
termination_by structural vs
def Row.inst (r : Row) (x : E) : Row := match r with
  | .any cs => .any (V.insts cs x)
  | .ints k l => .ints k (l.inst x)
  | .recs z n t => .recs z (n.inst x) t
termination_by structural r
end
theorem V.insts_map (x : E) : ∀ vs : List V, V.insts vs x = vs.map (V.inst · x)
  | [] => rfl
  | v :: vs => by unfold V.insts; rw [V.insts_map x vs]; rfl
mutual
theorem F1.inst : ∀ (v : V) (γ : Gm) (x : E) (y : Value), F1 v (γ.at (x.den γ.env)) y → F1 (v.inst x) γ y := by
  intro v γ x y h
  cases v with
  | int k e => simp only [V.inst, F1] at h ⊢; rw [E.inst_den]; exact h
  | bool b => simp only [V.inst, F1] at h ⊢; rw [B.inst_den]; exact h
  | str l => simp only [V.inst, F1] at h ⊢; rw [L.inst_den]; exact h
  | fs z r =>
    simp only [V.inst, F1] at h ⊢
    obtain ⟨xs, n, c, a, h1, h2, h3, h4, h5⟩ := h
    exact ⟨xs, n, c, a, h1, h2, h3, Fr.inst r γ x xs h4, h5⟩
  | fe r i z c =>
    simp only [V.inst, F1] at h ⊢
    obtain ⟨xs, b, d, full, h1, h2, h3, h4⟩ := h
    exact ⟨xs, b, d, full, by rw [E.inst_den]; exact h1, Fr.inst r γ x xs h2, h3, h4⟩
  | key c s => simp only [V.inst, F1] at h ⊢; rw [E.inst_den]; exact h
  | sc y => simpa only [V.inst, F1] using h
  | _ => simp only [F1] at h
theorem Fs.inst : ∀ (vs : List V) (γ : Gm) (x : E) (ys : List Value), Fs vs (γ.at (x.den γ.env)) ys → Fs (V.insts vs x) γ ys := by
  intro vs γ x ys h
  cases vs with
  | nil => cases ys <;> (unfold Fs at h; unfold V.insts Fs; exact h)
  | cons v vs => cases ys with
    | nil => unfold Fs at h; exact h.elim
    | cons y ys => unfold Fs at h; unfold V.insts Fs; exact ⟨F1.inst v γ x y h.1, Fs.inst vs γ x ys h.2⟩
theorem Fr.inst : ∀ (r : Row) (γ : Gm) (x : E) (ys : List Value), Fr r (γ.at (x.den γ.env)) ys → Fr (r.inst x) γ ys := by
  intro r γ x ys h
  cases r with
  | any cs => simp only [Row.inst, Fr] at h ⊢; exact Fs.inst cs γ x ys h
  | ints k l => simp only [Row.inst, Fr] at h ⊢; rw [L.inst_den]; exact h
  | recs z n t => simp only [Row.inst, Fr] at h ⊢; rw [E.inst_den]; exact h
end

/-! ### parts of a row -/
def idxE (i : E) (z c : Nat) : Option E := match i with
  | .lit (.ofNat m) => some (.lit (.ofNat (m * z + c)))
  | i => if Nat.beq z 1 && Nat.beq c 0 then some i else none
theorem idxE_ok {ρ : Env} {i e : E} {z c : Nat} (h : idxE i z c = some e) : (e.den ρ).toNat = (i.den ρ).toNat * z + c := by
  unfold idxE at h
  split at h
  · cases h; rfl
  · split at h
    · rename_i hc
      simp only [Bool.and_eq_true] at hc
      cases h
      rw [Nat.eq_of_beq_eq_true hc.1, Nat.eq_of_beq_eq_true hc.2]; omega
    · cases h
/-- the numbers from a place on. -/
def segI (k : IntKind) (l : L) (i : E) (z c : Nat) : Nat → Option (List V × List B)
  | 0 => some ([], [])
  | m + 1 => match idxE i z c, segI k l i z (c + 1) m with
    | some e, some (cs, bs) => some (.int k (mkGet l e) :: cs, inB e (mkLen l) :: bs)
    | _, _ => none
/-- so many cells from a place on; what must hold. -/
def Row.seg (r : Row) (i : E) (z c k : Nat) : Option (List V × List B) := match r with
  | .any cs => match i with
    | .lit (.ofNat m) => if Nat.ble (m * z + c + k) cs.length then some ((cs.drop (m * z + c)).take k, []) else none
    | _ => if Nat.beq z 0 && Nat.ble (c + k) cs.length then some ((cs.drop c).take k, []) else none
  | .ints kd l => segI kd l i z c k
  | .recs z' n t => if Nat.beq z z' && Nat.ble (c + k) z && Nat.beq t.length z then some (V.insts ((t.drop c).take k) i, [inB i n]) else none

theorem F2.up1 {β : Bt} {vs : List V} {xs : List Value} (h : Fs vs β.g xs) : F2 (R1 β) vs xs := (Fs_iff.1 h).mono fun _ _ h => (F1.up h).up
theorem RH.ofFr {β : Bt} {r : Row} {xs : List Value} (h : Fr r β.g xs) : RH β r xs := by
  cases r with
  | any cs => simp only [Fr] at h; exact F2.up1 h
  | _ => exact h

theorem segI_ok {β : Bt} {kd : IntKind} {l : L} {i : E} {z : Nat} : ∀ {k c : Nat} {cs : List V} {bs : List B}, segI kd l i z c k = some (cs, bs) → (∀ b ∈ bs, b.den β.g.env = true) →
    F2 (R1 β) cs (((((l.den β.g.env).map (Value.int kd)).drop ((i.den β.g.env).toNat * z + c)).take k)) ∧ (0 < k → (i.den β.g.env).toNat * z + c + k ≤ (l.den β.g.env).length)
  | 0, c, cs, bs, h, _ => by cases h; simp [F2]
  | k + 1, c, cs, bs, h, hb => by
    unfold segI at h
    split at h
    · rename_i e cs' bs' he hr
      cases h
      have h0 := idxE_ok (ρ := β.g.env) he
      have h1 := inB_den (hb _ (List.mem_cons_self ..))
      rw [mkLen_den] at h1
      have hlt : (i.den β.g.env).toNat * z + c < (l.den β.g.env).length := by omega
      obtain ⟨r1, r2⟩ := segI_ok hr fun b hm => hb b (List.mem_cons_of_mem _ hm)
      have hd : List.drop ((i.den β.g.env).toNat * z + c) ((l.den β.g.env).map (Value.int kd)) = Value.int kd ((l.den β.g.env).getD ((i.den β.g.env).toNat * z + c) 0) :: List.drop ((i.den β.g.env).toNat * z + (c + 1)) ((l.den β.g.env).map (Value.int kd)) := by
        rw [List.drop_eq_getElem_cons (by simpa using hlt)]
        simp [List.getD, hlt, Nat.add_assoc]
      rw [hd, List.take_succ_cons]
      refine ⟨⟨?_, r1⟩, fun _ => ?_⟩
      · show F1 (.int kd (mkGet l e)) β.g _
        simp only [F1, mkGet_den, h0]
      · cases k with
        | zero => omega
        | succ k => have := r2 (by omega); omega
    · cases h

theorem RH.seg {β : Bt} {r : Row} {xs : List Value} {i : E} {z c k : Nat} {cs : List V} {bs : List B} (h : RH β r xs) (hs : r.seg i z c k = some (cs, bs)) (hb : ∀ b ∈ bs, b.den β.g.env = true) :
    F2 (R1 β) cs ((xs.drop ((i.den β.g.env).toNat * z + c)).take k) ∧ (0 < k → (i.den β.g.env).toNat * z + c + k ≤ xs.length) := by
  cases r with
  | any vs =>
    have hf : F2 (R1 β) vs xs := h
    unfold Row.seg at hs
    simp only at hs
    split at hs
    · rename_i m
      split at hs
      · rename_i hle
        cases hs
        have hle := Nat.le_of_ble_eq_true hle
        have hl := hf.length
        simp only [E.den, Int.ofNat_eq_natCast, Int.toNat_natCast]
        exact ⟨(hf.drop _).take _, fun _ => by omega⟩
      · cases hs
    · split at hs
      · rename_i hc
        simp only [Bool.and_eq_true] at hc
        cases hs
        have hle := Nat.le_of_ble_eq_true hc.2
        have hz := Nat.eq_of_beq_eq_true hc.1
        have hl := hf.length
        subst hz
        simp only [Nat.mul_zero, Nat.zero_add]
        exact ⟨(hf.drop _).take _, fun _ => by omega⟩
      · cases hs
  | ints kd l =>
    have hx : xs = (l.den β.g.env).map (.int kd) := by simpa only [RH, Fr] using h
    subst hx
    obtain ⟨h1, h2⟩ := segI_ok hs hb
    exact ⟨h1, fun hk => by simpa using h2 hk⟩
  | recs z' n t =>
    have h' : 0 ≤ n.den β.g.env ∧ xs.length = (n.den β.g.env).toNat * z' ∧ ∀ i : Nat, i < (n.den β.g.env).toNat → Fs t (β.g.at i) ((xs.drop (i * z')).take z') := by simpa only [RH, Fr] using h
    unfold Row.seg at hs
    simp only at hs
    split at hs
    · rename_i hc
      simp only [Bool.and_eq_true] at hc
      cases hs
      obtain rfl := Nat.eq_of_beq_eq_true hc.1.1
      have hle := Nat.le_of_ble_eq_true hc.1.2
      have ht := Nat.eq_of_beq_eq_true hc.2
      have hi := inB_den (hb _ (List.mem_singleton.2 rfl))
      have hi' : (i.den β.g.env).toNat < (n.den β.g.env).toNat := by omega
      have hF := h'.2.2 _ hi'
      have hto : (((i.den β.g.env).toNat : Nat) : Int) = i.den β.g.env := Int.toNat_of_nonneg hi.1
      rw [hto] at hF
      have hmul : (i.den β.g.env).toNat * z + z ≤ xs.length := by
        rw [h'.2.1]
        have := Nat.mul_le_mul_right z (Nat.succ_le_of_lt hi')
        rwa [Nat.succ_mul] at this
      refine ⟨?_, fun _ => by omega⟩
      have hG := F2.up1 (Fs.inst t β.g i _ hF)
      rw [V.insts_map] at hG ⊢
      have := (hG.drop c).take k
      rw [← List.map_drop, ← List.map_take] at this
      have e : ((xs.drop ((i.den β.g.env).toNat * z + c)).take k) = (((xs.drop ((i.den β.g.env).toNat * z)).take z).drop c).take k := by
        rw [List.drop_take, List.take_take, List.drop_drop, Nat.min_eq_left (by omega)]
      rw [e]; exact this
    · cases hs
end Go.Proofs.Ytnklnboglijcbaa.E
