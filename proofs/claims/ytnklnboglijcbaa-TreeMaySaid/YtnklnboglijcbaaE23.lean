/- Letters replaced; values alike in writing. Plain Lean over the kit's model; no program. -/
import Derived.Test.YtnklnboglijcbaaE22
namespace Go.Proofs.Ytnklnboglijcbaa.E
open Go Go.RowKit
set_option linter.unusedVariables false

/-- what is put for letters. -/
structure Sub where
  e : List E
  l : List L
  ll : List LL
  b : List B
/-- of written-out numbers: reckoned at once. -/
def mkApp (f : Nat) (a : L) (as : LL) : L := match as with
  | .nil => match litsO a with
    | some l => litL (J f l [])
    | none => .app f a .nil
  | as => .app f a as
theorem mkApp_den (ρ : Env) (f : Nat) (a : L) (as : LL) : (mkApp f a as).den ρ = J f (a.den ρ) (as.den ρ) := by
  unfold mkApp
  split
  · split
    · rename_i l hl; rw [litL_den, litsO_ok ρ hl]; rfl
    · rfl
  · rfl
mutual
def E.sub (a : E) (s : Sub) : E := match a with
  | .lit n => .lit n
  | .var i => s.e.getD i (.lit 0)
  | .ix => .ix
  | .bin o k a b => mkBin o k (a.sub s) (b.sub s)
  | .un o k a => mkUn o k (a.sub s)
  | .conv k a => mkConv k (a.sub s)
  | .get l i => mkGet (l.sub' s) (i.sub s)
  | .len l => mkLen (l.sub' s)
  | .cnt l => .cnt (l.sub s)
  | .ofB b => mkOfB (b.sub s)
  | .ite b u v => mkIte (b.sub s) (u.sub s) (v.sub s)
termination_by structural a
def L.sub' (a : L) (s : Sub) : L := match a with
  | .nil => .nil
  | .cons e l => .cons (e.sub s) (l.sub' s)
  | .var i => s.l.getD i .nil
  | .at l i => .at (l.sub s) (i.sub s)
  | .cat a b => mkCat (a.sub' s) (b.sub' s)
  | .cut l lo hi => mkCut (l.sub' s) (lo.sub s) (hi.sub s)
  | .sub l off n => .sub (l.sub' s) off n
  | .set l i u => .set (l.sub' s) (i.sub s) (u.sub s)
  | .rep n u => .rep (n.sub s) (u.sub s)
  | .byt l => .byt (l.sub' s)
  | .app f a as => mkApp f (a.sub' s) (as.sub s)
  | .ite b u v => .ite (b.sub s) (u.sub' s) (v.sub' s)
termination_by structural a
def LL.sub (a : LL) (s : Sub) : LL := match a with
  | .nil => .nil
  | .cons l ls => .cons (l.sub' s) (ls.sub s)
  | .var i => s.ll.getD i .nil
  | .cat a b => .cat (a.sub s) (b.sub s)
  | .app f a as => .app f (a.sub' s) (as.sub s)
termination_by structural a
def B.sub (a : B) (s : Sub) : B := match a with
  | .lit b => .lit b
  | .var i => s.b.getD i (.lit false)
  | .lt a b => mkLt (a.sub s) (b.sub s)
  | .eq a b => mkEq (a.sub s) (b.sub s)
  | .leq a b => mkLeq (a.sub' s) (b.sub' s)
  | .seq a b => mkSeq (a.sub' s) (b.sub' s)
  | .not a => mkNot (a.sub s)
  | .and a b => mkAnd (a.sub s) (b.sub s)
termination_by structural a
end
def Env.sub (ρ : Env) (s : Sub) : Env := ⟨fun i => (s.e.getD i (.lit 0)).den ρ, fun i => (s.l.getD i .nil).den ρ, fun i => (s.ll.getD i .nil).den ρ, fun i => (s.b.getD i (.lit false)).den ρ, ρ.ix⟩
mutual
theorem E.sub_den (ρ : Env) (s : Sub) : ∀ a : E, (a.sub s).den ρ = a.den (ρ.sub s)
  | .lit _ | .var _ | .ix => by simp [E.sub, E.den, Env.sub]
  | .bin _ _ a b => by simp [E.sub, E.den, mkBin_den, E.sub_den ρ s a, E.sub_den ρ s b]
  | .un _ _ a | .conv _ a => by simp [E.sub, E.den, mkUn_den, mkConv_den, E.sub_den ρ s a]
  | .get l i => by simp [E.sub, E.den, mkGet_den, L.sub_den ρ s l, E.sub_den ρ s i]
  | .len l => by simp [E.sub, E.den, mkLen_den, L.sub_den ρ s l]
  | .cnt l => by simp [E.sub, E.den, LL.sub_den ρ s l]
  | .ofB b => by simp [E.sub, E.den, mkOfB_den, B.sub_den ρ s b]
  | .ite b u v => by simp [E.sub, E.den, mkIte_den, B.sub_den ρ s b, E.sub_den ρ s u, E.sub_den ρ s v]
theorem L.sub_den (ρ : Env) (s : Sub) : ∀ a : L, (a.sub' s).den ρ = a.den (ρ.sub s)
  | .nil | .var _ => by simp [L.sub', L.den, Env.sub]
  | .cons e l => by simp [L.sub', L.den, E.sub_den ρ s e, L.sub_den ρ s l]
  | .at l i => by simp [L.sub', L.den, LL.sub_den ρ s l, E.sub_den ρ s i]
  | .cat a b => by simp [L.sub', L.den, mkCat_den, L.sub_den ρ s a, L.sub_den ρ s b]
  | .cut l lo hi => by simp [L.sub', L.den, mkCut_den, L.sub_den ρ s l, E.sub_den ρ s lo, E.sub_den ρ s hi]
  | .sub l _ _ => by simp [L.sub', L.den, L.sub_den ρ s l]
  | .set l i u => by simp [L.sub', L.den, L.sub_den ρ s l, E.sub_den ρ s i, E.sub_den ρ s u]
  | .rep n u => by simp [L.sub', L.den, E.sub_den ρ s n, E.sub_den ρ s u]
  | .byt l => by simp [L.sub', L.den, L.sub_den ρ s l]
  | .app _ a as => by simp [L.sub', L.den, mkApp_den, L.sub_den ρ s a, LL.sub_den ρ s as]
  | .ite b u v => by simp [L.sub', L.den, B.sub_den ρ s b, L.sub_den ρ s u, L.sub_den ρ s v]
theorem LL.sub_den (ρ : Env) (s : Sub) : ∀ a : LL, (a.sub s).den ρ = a.den (ρ.sub s)
  | .nil | .var _ => by simp [LL.sub, LL.den, Env.sub]
  | .cons l ls => by simp [LL.sub, LL.den, L.sub_den ρ s l, LL.sub_den ρ s ls]
  | .cat a b => by simp [LL.sub, LL.den, LL.sub_den ρ s a, LL.sub_den ρ s b]
  | .app _ a as => by simp [LL.sub, LL.den, L.sub_den ρ s a, LL.sub_den ρ s as]
theorem B.sub_den (ρ : Env) (s : Sub) : ∀ a : B, (a.sub s).den ρ = a.den (ρ.sub s)
  | .lit _ | .var _ => by simp [B.sub, B.den, Env.sub]
  | .lt a b | .eq a b => by simp [B.sub, B.den, mkLt_den, mkEq_den, E.sub_den ρ s a, E.sub_den ρ s b]
  | .leq a b | .seq a b => by simp [B.sub, B.den, mkLeq_den, mkSeq_den, L.sub_den ρ s a, L.sub_den ρ s b]
  | .not a => by simp [B.sub, B.den, mkNot_den, B.sub_den ρ s a]
  | .and a b => by simp [B.sub, B.den, mkAnd_den, B.sub_den ρ s a, B.sub_den ρ s b]
end

/-- the index letter does not stand in what is put. -/
def Sub.noix (s : Sub) : Bool := s.e.all (fun a => (a.inst (.lit 0)).same a) && s.l.all (fun a => (a.inst (.lit 0)).same a) && s.ll.all (fun a => (a.inst (.lit 0)).same a) && s.b.all (fun a => (a.inst (.lit 0)).same a)
theorem Env.at_at (ρ : Env) (i j : Int) : (ρ.at i).at j = ρ.at j := rfl
theorem getD_mem {α : Type} {l : List α} {i : Nat} {d : α} {p : α → Prop} (hl : ∀ a ∈ l, p a) (hd : p d) : p (l.getD i d) := by
  rw [List.getD]
  cases h : l[i]? with
  | none => simpa using hd
  | some a => simpa using hl a (List.mem_of_getElem? h)
theorem Sub.noix_ok {s : Sub} (h : s.noix = true) (ρ : Env) (i : Int) : (ρ.at i).sub s = (ρ.sub s).at i := by
  simp only [Sub.noix, Bool.and_eq_true, List.all_eq_true] at h
  obtain ⟨⟨⟨h1, h2⟩, h3⟩, h4⟩ := h
  have k1 : ∀ a : E, (a.inst (.lit 0)).same a = true → a.den (ρ.at i) = a.den ρ := fun a ha => by
    have := E.same_ok ha
    have e1 := E.inst_den ρ (.lit 0) a
    have e2 := E.inst_den (ρ.at i) (.lit 0) a
    rw [this] at e1 e2
    rw [e1, e2, Env.at_at]; rfl
  have k2 : ∀ a : L, (a.inst (.lit 0)).same a = true → a.den (ρ.at i) = a.den ρ := fun a ha => by
    have := L.same_ok ha
    have e1 := L.inst_den ρ (.lit 0) a
    have e2 := L.inst_den (ρ.at i) (.lit 0) a
    rw [this] at e1 e2
    rw [e1, e2, Env.at_at]; rfl
  have k3 : ∀ a : LL, (a.inst (.lit 0)).same a = true → a.den (ρ.at i) = a.den ρ := fun a ha => by
    have := LL.same_ok ha
    have e1 := LL.inst_den ρ (.lit 0) a
    have e2 := LL.inst_den (ρ.at i) (.lit 0) a
    rw [this] at e1 e2
    rw [e1, e2, Env.at_at]; rfl
  have k4 : ∀ a : B, (a.inst (.lit 0)).same a = true → a.den (ρ.at i) = a.den ρ := fun a ha => by
    have := B.same_ok ha
    have e1 := B.inst_den ρ (.lit 0) a
    have e2 := B.inst_den (ρ.at i) (.lit 0) a
    rw [this] at e1 e2
    rw [e1, e2, Env.at_at]; rfl
  simp only [Env.sub, Env.at, Env.mk.injEq, and_true]
  refine ⟨?_, ?_, ?_, ?_⟩ <;> funext j
  · exact getD_mem (p := fun a : E => a.den (ρ.at i) = a.den ρ) (fun a ha => k1 a (h1 a ha)) rfl
  · exact getD_mem (p := fun a : L => a.den (ρ.at i) = a.den ρ) (fun a ha => k2 a (h2 a ha)) rfl
  · exact getD_mem (p := fun a : LL => a.den (ρ.at i) = a.den ρ) (fun a ha => k3 a (h3 a ha)) rfl
  · exact getD_mem (p := fun a : B => a.den (ρ.at i) = a.den ρ) (fun a ha => k4 a (h4 a ha)) rfl

/-! ### values -/
mutual
def V.sub (v : V) (s : Sub) : V := match v with
  | .und => .und
  | .sc x => .sc x
  | .int k e => .int k (e.sub s)
  | .bool b => .bool (b.sub s)
  | .str l => .str (l.sub' s)
  | .ptr id i z c => .ptr id (i.sub s) z c
  | .sl id c off len z top => .sl id c (off.sub s) (len.sub s) z top
  | .fs z r => .fs z (Row.sub r s)
  | .fe r i z c => .fe (Row.sub r s) (i.sub s) z c
  | .key c x => .key c (x.sub s)
  | .agg cs => .agg (V.subs cs s)
  | .tup vs => .tup (V.subs vs s)
  | .fn f a b => .fn f (V.subs a s) (V.subs b s)
termination_by structural v
def V.subs (vs : List V) (s : Sub) : List V := match vs with
  | [] => []
  | v :: vs => V.sub v s :: V.subs vs s
termination_by structural vs
def Row.sub (r : Row) (s : Sub) : Row := match r with
  | .any cs => .any (V.subs cs s)
  | .ints k l => .ints k (l.sub' s)
  | .recs z n t => .recs z (n.sub s) (V.subs t s)
termination_by structural r
end
theorem V.subs_map (s : Sub) : ∀ vs : List V, V.subs vs s = vs.map (V.sub · s)
  | [] => rfl
  | v :: vs => by unfold V.subs; rw [V.subs_map s vs]; rfl
def Gm.sub (γ : Gm) (s : Sub) : Gm := { γ with env := γ.env.sub s }
def Bt.sub (β : Bt) (s : Sub) : Bt := ⟨β.g.sub s, β.nm⟩
theorem Gm.sub_at {s : Sub} (hs : s.noix = true) (γ : Gm) (i : Int) : (γ.at i).sub s = (γ.sub s).at i := by
  simp only [Gm.sub, Gm.at, Sub.noix_ok hs]
mutual
theorem F1.sub {s : Sub} (hs : s.noix = true) : ∀ (v : V) (γ : Gm) (y : Value), F1 (v.sub s) γ y ↔ F1 v (γ.sub s) y := by
  intro v γ y
  cases v with
  | sc x => simp only [V.sub, F1]
  | int k e => simp only [V.sub, F1, E.sub_den]; exact Iff.rfl
  | bool b => simp only [V.sub, F1, B.sub_den]; exact Iff.rfl
  | str l => simp only [V.sub, F1, L.sub_den]; exact Iff.rfl
  | fs z r =>
    simp only [V.sub, F1]
    exact exists_congr fun xs => exists_congr fun n => exists_congr fun c => exists_congr fun a => and_congr_right fun _ => and_congr_right fun _ => and_congr_right fun _ => and_congr (Fr.sub hs r γ xs) Iff.rfl
  | fe r i z c =>
    simp only [V.sub, F1, E.sub_den]
    exact exists_congr fun xs => exists_congr fun b => exists_congr fun d => exists_congr fun full => and_congr Iff.rfl (and_congr (Fr.sub hs r γ xs) Iff.rfl)
  | key c x => simp only [V.sub, F1, E.sub_den]; exact Iff.rfl
  | _ => simp only [V.sub, F1]
theorem Fs.sub {s : Sub} (hs : s.noix = true) : ∀ (vs : List V) (γ : Gm) (xs : List Value), Fs (V.subs vs s) γ xs ↔ Fs vs (γ.sub s) xs := by
  intro vs γ xs
  cases vs with
  | nil => cases xs <;> simp [V.subs, Fs]
  | cons v vs => cases xs with
    | nil => simp [V.subs, Fs]
    | cons x xs => unfold V.subs Fs; exact and_congr (F1.sub hs v γ x) (Fs.sub hs vs γ xs)
theorem Fr.sub {s : Sub} (hs : s.noix = true) : ∀ (r : Row) (γ : Gm) (xs : List Value), Fr (Row.sub r s) γ xs ↔ Fr r (γ.sub s) xs := by
  intro r γ xs
  cases r with
  | any cs => simp only [Row.sub, Fr]; exact Fs.sub hs cs γ xs
  | ints k l => simp only [Row.sub, Fr, L.sub_den]; exact Iff.rfl
  | recs z n t =>
    simp only [Row.sub, Fr, E.sub_den]
    refine and_congr Iff.rfl (and_congr Iff.rfl (forall_congr' fun i => imp_congr_right fun _ => ?_))
    rw [← Gm.sub_at hs]
    exact Fs.sub hs t (γ.at i) _
end
theorem F2.iff {r r' : V → Value → Prop} {f : V → V} : ∀ {as : List V} {xs : List Value}, (∀ a x, r (f a) x ↔ r' a x) → (F2 r (as.map f) xs ↔ F2 r' as xs)
  | [], [], _ => Iff.rfl
  | [], _ :: _, _ => Iff.rfl
  | _ :: _, [], _ => Iff.rfl
  | a :: as, x :: xs, h => and_congr (h a x) (F2.iff h)
theorem R0.sub {s : Sub} (hs : s.noix = true) (β : Bt) (v : V) (x : Value) : R0 β (v.sub s) x ↔ R0 (β.sub s) v x := by
  have h := F1.sub hs v β.g x
  cases v with
  | ptr id i z c => simp only [V.sub, R0, E.sub_den]; exact Iff.rfl
  | sl id c off len z top => simp only [V.sub, R0, E.sub_den]; exact Iff.rfl
  | _ => exact h
theorem R1.sub {s : Sub} (hs : s.noix = true) (β : Bt) (v : V) (x : Value) : R1 β (v.sub s) x ↔ R1 (β.sub s) v x := by
  have h := R0.sub hs β v x
  cases v with
  | fn f a b =>
    simp only [V.sub, R1, V.subs_map]
    exact exists_congr fun xs => exists_congr fun ys => and_congr Iff.rfl (and_congr (F2.iff fun a x => R0.sub hs β a x) (F2.iff fun a x => R0.sub hs β a x))
  | _ => exact h
theorem R2.sub {s : Sub} (hs : s.noix = true) (β : Bt) (v : V) (x : Value) : R2 β (v.sub s) x ↔ R2 (β.sub s) v x := by
  have h := R1.sub hs β v x
  cases v with
  | agg cs =>
    simp only [V.sub, R2, V.subs_map]
    exact exists_congr fun xs => and_congr Iff.rfl (F2.iff fun a x => R1.sub hs β a x)
  | _ => exact h
theorem R.sub {s : Sub} (hs : s.noix = true) (β : Bt) (v : V) (x : Value) : R β (v.sub s) x ↔ R (β.sub s) v x := by
  have h := R2.sub hs β v x
  cases v with
  | und => exact Iff.rfl
  | tup vs =>
    simp only [V.sub, R, V.subs_map]
    exact exists_congr fun xs => and_congr Iff.rfl (F2.iff fun a x => R2.sub hs β a x)
  | _ => exact h

/-- a contract without objects, its letters replaced. -/
theorem Spec.sub {P : Program} {ρ : Env} {s : Sub} (hs : s.noix = true) {g : FuncId} {args : List V} {r : V} {m : Nat} (h : Spec P (ρ.sub s) g args m no r m no) : Spec P ρ g (V.subs args s) m no (r.sub s) m no := by
  refine ⟨h.there, fun β xs w hS hA => ?_⟩
  have nowr : ∀ (β : Bt) b, ¬ Wr β no b := fun β b ⟨_, _, _, e, _⟩ => by cases e
  have hS' : Sim (ρ.sub s) m (β.sub s) no w := ⟨⟨by rw [← hS.env]; rfl, fun _ _ e => (by cases e), fun _ _ _ _ _ _ e => (by cases e), fun b cs hb => ⟨(hS.fzs b cs hb).1, nowr _ b, (hS.fzs b cs hb).2.2⟩, fun b c hb => ⟨(hS.kvs b c hb).1, nowr _ b⟩⟩, hS.fresh⟩
  rw [V.subs_map] at hA
  refine (h.calls (β.sub s) xs w hS' ((F2.iff fun a x => R.sub hs β a x).1 hA)).mono ?_
  rintro e w' ⟨x, β1, he, hR, hS1, st⟩
  let β2 : Bt := ⟨{ β1.g with env := ρ }, β1.nm⟩
  have hβ2 : β2.sub s = β1 := by
    have : β1.g.env = ρ.sub s := hS1.env
    obtain ⟨⟨e1, f1, k1⟩, n1⟩ := β1
    simp only [Bt.sub, Gm.sub, β2]
    simp only at this
    rw [this]
  refine ⟨x, β2, he, (R.sub hs β2 r x).2 (by rw [hβ2]; exact hR), ⟨⟨rfl, fun _ _ e => (by cases e), fun _ _ _ _ _ _ e => (by cases e), fun b cs hb => ⟨(hS1.fzs b cs hb).1, nowr _ b, (hS1.fzs b cs hb).2.2⟩, fun b c hb => ⟨(hS1.kvs b c hb).1, nowr _ b⟩⟩, hS1.fresh⟩,
    ⟨⟨⟨hS.env.symm, st.le.g.fz, st.le.g.kv⟩, st.le.nm⟩, st.os, st.tape, st.output, st.size, fun b hb _ hk => st.fr b hb (nowr _ b) hk, fun b hb => (nowr _ b hb).elim, fun b cs hb => ?_, fun b c hb => ?_⟩⟩
  · rcases st.fzn b cs hb with h | h | h
    · exact .inl h
    · exact (nowr _ b h).elim
    · exact .inr (.inr h)
  · rcases st.kvn b c hb with h | h | h
    · exact .inl h
    · exact (nowr _ b h).elim
    · exact .inr (.inr h)
end Go.Proofs.Ytnklnboglijcbaa.E
