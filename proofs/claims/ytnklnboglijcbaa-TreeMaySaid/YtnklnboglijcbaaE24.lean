/- Contracts used at calls. Plain Lean over the kit's model; no program. -/
import Derived.Test.YtnklnboglijcbaaE23
namespace Go.Proofs.Ytnklnboglijcbaa.E
open Go Go.RowKit
set_option linter.unusedVariables false

/-! ### alike in writing -/
def scSame (x y : Value) : Bool := match x, y with
  | .slice none a b, .slice none c d => Nat.beq a c && Nat.beq b d
  | .pointer none, .pointer none => true
  | .nilFunc, .nilFunc => true
  | _, _ => false
theorem scSame_ok {x y : Value} (h : scSame x y = true) : x = y := by
  unfold scSame at h
  split at h
  · simp only [Bool.and_eq_true] at h
    rw [Nat.eq_of_beq_eq_true h.1, Nat.eq_of_beq_eq_true h.2]
  · rfl
  · rfl
  · cases h
mutual
def V.same (v u : V) : Bool := match v, u with
  | .und, .und => true
  | .sc x, .sc y => scSame x y
  | .int k e, .int k' e' => Nat.beq (kN k) (kN k') && e.same e'
  | .bool b, .bool b' => b.same b'
  | .str l, .str l' => l.same l'
  | .fs z r, .fs z' r' => Nat.beq z z' && Row.same r r'
  | .fe r i z c, .fe r' i' z' c' => Row.same r r' && i.same i' && Nat.beq z z' && Nat.beq c c'
  | .key c x, .key c' x' => Nat.beq c c' && x.same x'
  | .agg cs, .agg cs' => V.sames cs cs'
  | .tup cs, .tup cs' => V.sames cs cs'
  | _, _ => false
termination_by structural v
def V.sames (vs us : List V) : Bool := match vs, us with
  | [], [] => true
  | v :: vs, u :: us => V.same v u && V.sames vs us
  | _, _ => false
termination_by structural vs
def Row.same (r q : Row) : Bool := match r, q with
  | .any cs, .any cs' => V.sames cs cs'
  | .ints k l, .ints k' l' => Nat.beq (kN k) (kN k') && l.same l'
  | .recs z n t, .recs z' n' t' => Nat.beq z z' && n.same n' && V.sames t t'
  | _, _ => false
termination_by structural r
end
mutual
theorem V.same_ok : ∀ {v u : V}, v.same u = true → v = u := by
  intro v u h
  cases v <;> cases u <;> first
    | (simp only [V.same] at h; cases h; done)
    | (simp only [V.same, Bool.and_eq_true] at h)
  · rfl
  · rw [scSame_ok h]
  · rw [kN_inj h.1, E.same_ok h.2]
  · rw [B.same_ok h]
  · rw [L.same_ok h]
  · rw [Nat.eq_of_beq_eq_true h.1, Row.same_ok h.2]
  · rw [Row.same_ok h.1.1.1, E.same_ok h.1.1.2, Nat.eq_of_beq_eq_true h.1.2, Nat.eq_of_beq_eq_true h.2]
  · rw [Nat.eq_of_beq_eq_true h.1, E.same_ok h.2]
  · rw [V.sames_ok h]
  · rw [V.sames_ok h]
theorem V.sames_ok : ∀ {vs us : List V}, V.sames vs us = true → vs = us := by
  intro vs us h
  cases vs <;> cases us <;> first
    | (simp only [V.sames] at h; cases h; done)
    | (simp only [V.sames, Bool.and_eq_true] at h)
  · rfl
  · rw [V.same_ok h.1, V.sames_ok h.2]
theorem Row.same_ok : ∀ {r q : Row}, r.same q = true → r = q := by
  intro r q h
  cases r <;> cases q <;> first
    | (simp only [Row.same] at h; cases h; done)
    | (simp only [Row.same, Bool.and_eq_true] at h)
  · rw [V.sames_ok h]
  · rw [kN_inj h.1, L.same_ok h.2]
  · rw [Nat.eq_of_beq_eq_true h.1.1, E.same_ok h.1.2, V.sames_ok h.2]
end

/-! ### brought to the contract's form -/
def fit0 (c a : V) : V := match c, a with
  | .fs z (.ints k _), .sc (.slice none 0 0) => .fs z (.ints k .nil)
  | .fs _ (.ints k _), .fs z r => match r.asInts k with
    | some l => .fs z (.ints k l)
    | none => .fs z r
  | _, a => a
theorem Row.asInts_fr {γ : Gm} {k : IntKind} {r : Row} {l : L} {xs : List Value} (h : Fr r γ xs) (hr : r.asInts k = some l) : xs = (l.den γ.env).map (.int k) :=
  Row.asInts_ok (β := ⟨γ, fun _ => none⟩) (RH.ofFr h) hr
theorem fit0_F1 {γ : Gm} {c a : V} {x : Value} (h : F1 a γ x) : F1 (fit0 c a) γ x := by
  unfold fit0
  split
  · rename_i z k _
    simp only [F1] at h ⊢
    obtain ⟨rfl, _⟩ := h
    exact ⟨[], 0, 0, none, rfl, by simp, Nat.le_refl _, by simp [Fr, L.den], .inl ⟨rfl, rfl, rfl⟩⟩
  · split
    · rename_i l hl
      simp only [F1] at h ⊢
      obtain ⟨xs, n, c, ad, h1, h2, h3, h4, h5⟩ := h
      exact ⟨xs, n, c, ad, h1, h2, h3, by simp only [Fr]; exact Row.asInts_fr h4 hl, h5⟩
    · exact h
  · exact h
theorem fit0_id {c a : V} (h : ∀ x, a ≠ .sc x) (h' : ∀ z r, a ≠ .fs z r) : fit0 c a = a := by
  unfold fit0
  split
  · exact (h _ rfl).elim
  · exact (h' _ _ rfl).elim
  · rfl
theorem fit0_F1' (c : V) {a : V} : (∃ x, a = .sc x) ∨ (∃ z r, a = .fs z r) → ∃ b, fit0 c a = b ∧ (b = a ∨ ∃ z r, b = .fs z r) := by
  intro h
  refine ⟨_, rfl, ?_⟩
  unfold fit0
  split
  · exact .inr ⟨_, _, rfl⟩
  · split
    · exact .inr ⟨_, _, rfl⟩
    · exact .inr ⟨_, _, rfl⟩
  · exact .inl rfl
theorem fit0_R0 {β : Bt} {c a : V} {x : Value} (h : R0 β a x) : R0 β (fit0 c a) x := by
  cases a with
  | sc y => exact F1.up (fit0_F1 (show F1 (.sc y) β.g x from h))
  | fs z r => exact F1.up (fit0_F1 (show F1 (.fs z r) β.g x from h))
  | _ => rw [fit0_id (fun _ e => by cases e) (fun _ _ e => by cases e)]; exact h
theorem fit0_R1 {β : Bt} {c a : V} {x : Value} (h : R1 β a x) : R1 β (fit0 c a) x := by
  cases a with
  | sc y => exact (fit0_R0 (show R0 β (.sc y) x from h)).up
  | fs z r => exact (fit0_R0 (show R0 β (.fs z r) x from h)).up
  | _ => rw [fit0_id (fun _ e => by cases e) (fun _ _ e => by cases e)]; exact h
def fits0 : List V → List V → List V
  | c :: cs, a :: as => fit0 c a :: fits0 cs as
  | _, as => as
theorem fits0_ok {β : Bt} : ∀ {cs as : List V} {xs : List Value}, F2 (R1 β) as xs → F2 (R1 β) (fits0 cs as) xs
  | [], as, xs, h => by unfold fits0; exact h
  | c :: cs, [], xs, h => h
  | c :: cs, a :: as, [], h => h
  | c :: cs, a :: as, x :: xs, h => ⟨fit0_R1 h.1, fits0_ok h.2⟩
def fitA (c a : V) : V := match a with
  | .agg as => match c with
    | .agg cs => .agg (fits0 cs as)
    | _ => .agg as
  | a => fit0 c a
theorem fitA_ok {β : Bt} {c a : V} {x : Value} (h : R β a x) : R β (fitA c a) x := by
  unfold fitA
  split
  · split
    · obtain ⟨xs, e, hF⟩ := (show R2 β (.agg _) x from h)
      exact ⟨xs, e, fits0_ok hF⟩
    · exact h
  · rename_i hne
    cases a with
    | sc y => exact (fit0_R0 (show R0 β (.sc y) x from h)).toR
    | fs z r => exact (fit0_R0 (show R0 β (.fs z r) x from h)).toR
    | agg as => exact (hne _ rfl).elim
    | _ => rw [fit0_id (fun _ e => by cases e) (fun _ _ e => by cases e)]; exact h
def fitsA : List V → List V → List V
  | c :: cs, a :: as => fitA c a :: fitsA cs as
  | _, as => as
theorem fitsA_ok {β : Bt} : ∀ {cs as : List V} {xs : List Value}, F2 (R β) as xs → F2 (R β) (fitsA cs as) xs
  | [], as, xs, h => by unfold fitsA; exact h
  | c :: cs, [], xs, h => h
  | c :: cs, a :: as, [], h => h
  | c :: cs, a :: as, x :: xs, h => ⟨fitA_ok h.1, fitsA_ok h.2⟩

/-! ### what stands for which letter -/
def putAt {α : Type} (d : α) : List α → Nat → α → List α
  | [], 0, x => [x]
  | [], i + 1, x => d :: putAt d [] i x
  | _ :: l, 0, x => x :: l
  | a :: l, i + 1, x => a :: putAt d l i x
def matE (c a : E) (s : Sub) : Sub := match c, a with
  | .var i, a => { s with e := putAt (.lit 0) s.e i a }
  | .get (.var j) _, .get l _ => { s with l := putAt .nil s.l j l }
  | _, _ => s
def matL : L → L → Sub → Sub
  | .var i, a, s => { s with l := putAt .nil s.l i a }
  | .cons e l, .cons e' l', s => matL l l' (matE e e' s)
  | .at (.var j) _, .at l _, s => { s with ll := putAt .nil s.ll j l }
  | _, _, s => s
def matB (c a : B) (s : Sub) : Sub := match c with
  | .var i => { s with b := putAt (.lit false) s.b i a }
  | _ => s
mutual
def V.mat (c : V) (a : V) (s : Sub) : Sub := match c, a with
  | .int _ e, .int _ e' => matE e e' s
  | .bool b, .bool b' => matB b b' s
  | .str l, .str l' => matL l l' s
  | .fs _ r, .fs _ r' => Row.mat r r' s
  | .agg cs, .agg as => V.mats cs as s
  | _, _ => s
termination_by structural c
def V.mats (cs as : List V) (s : Sub) : Sub := match cs, as with
  | c :: cs, a :: as => V.mats cs as (V.mat c a s)
  | _, _ => s
termination_by structural cs
def Row.mat (c a : Row) (s : Sub) : Sub := match c, a with
  | .any cs, .any as => V.mats cs as s
  | .ints _ l, .ints _ l' => matL l l' s
  | .recs _ n t, .recs _ n' t' => V.mats t t' (matE n n' s)
  | _, _ => s
termination_by structural c
end

/-! ### the table -/
def askT (s : Sub) (mu : List (Nat × Option Ob)) : T (V × List B) → Kn → T CR
  | .leaf q, kn => .leaf (q.1.sub s, [], (bif (q.1.sub s).nofz then [] else mu), q.2.map (·.sub s), kn)
  | .br c l r, kn => ask (c.sub s) kn fun t kn => bif t then askT s mu l kn else askT s mu r kn
  | .dead, _ => .dead
theorem askT_ok {ρ : Env} {s : Sub} {mu : List (Nat × Option Ob)} : ∀ {t : T (V × List B)} {kn : Kn} {r' : V} {news : List (Option Ob)} {muts : List (Nat × Option Ob)} {bs' : List B} {kn' : Kn}, knOk ρ kn → (askT s mu t kn).pick ρ = some (r', news, muts, bs', kn') →
    knOk ρ kn' ∧ ∃ r bs, t.pick (ρ.sub s) = some (r, bs) ∧ r' = r.sub s ∧ news = [] ∧ muts = (bif (r.sub s).nofz then [] else mu) ∧ bs' = bs.map (·.sub s)
  | .leaf q, kn, r', news, muts, bs', kn', hk, h => by
    simp only [askT, T.pick, Option.some.injEq, Prod.mk.injEq] at h
    obtain ⟨rfl, rfl, rfl, rfl, rfl⟩ := h
    exact ⟨hk, q.1, q.2, rfl, rfl, rfl, rfl, rfl⟩
  | .br c l r, kn, r', news, muts, bs', kn', hk, h => by
    unfold askT at h
    obtain ⟨kn1, h1, h2⟩ := ask_ok (c.sub s) (k := fun t kn => bif t then askT s mu l kn else askT s mu r kn) hk
    rw [h2, B.sub_den] at h
    cases hc : c.den (ρ.sub s) with
    | true =>
      rw [hc] at h
      simp only [T.pick, hc, cond_true]
      exact askT_ok h1 h
    | false =>
      rw [hc] at h
      simp only [T.pick, hc, cond_false]
      exact askT_ok h1 h
  | .dead, _, _, _, _, _, _, _, h => by cases h

theorem Spec.weak {P : Program} {ρ : Env} {g : FuncId} {args args' : List V} {r : V} {n n' : Nat} {σ σ' : Sto} (h : Spec P ρ g args' n σ r n' σ') (ha : ∀ (β : Bt) xs, F2 (R β) args xs → F2 (R β) args' xs) : Spec P ρ g args n σ r n' σ' :=
  ⟨h.there, fun β xs w hS hA => h.calls β xs w hS (ha β xs hA)⟩
theorem Spec.fewer {P : Program} {ρ : Env} {g : FuncId} {args : List V} {r : V} {n n' : Nat} {σ σ' σ'' : Sto} (h : Spec P ρ g args n σ r n' σ') (hs : (∀ id o, σ id = some o → id < n) → σ''.le σ') : Spec P ρ g args n σ r n' σ'' :=
  ⟨h.there, fun β xs w hS hA => (h.calls β xs w hS hA).mono fun e w' ⟨x, β', he, hR, hS', st⟩ =>
    have hl := hs fun id o ho => by obtain ⟨q, hq, _⟩ := hS.ob id o ho; exact hS.lt hq
    ⟨x, β', he, hR, hS'.drop hl, st.dropEnd hl⟩⟩

def Con.use (c : Con) (args : List V) (σ : Sto) (kn : Kn) : Option (T CR) :=
  let D := reach σ 1000 (args.flatMap V.ids) []
  match deepsA (frz D σ) 60 args with
  | none => none
  | some ds =>
    let es := fitsA c.args ds
    let s := V.mats c.args es ⟨[], [], [], []⟩
    if s.noix && V.sames (V.subs c.args s) es then some (askT s (D.map fun id => (id, frz D σ id)) c.t kn) else none
theorem Con.use_ok {P : Program} {ρ : Env} {c : Con} (hc : ConOk P c) {args : List V} {n : Nat} {σ : Sto} {kn : Kn} {t : T CR} {r : V} {news : List (Option Ob)} {muts : List (Nat × Option Ob)} {bs : List B} {kn' : Kn} (hk : knOk ρ kn)
    (h : c.use args σ kn = some t) (hp : t.pick ρ = some (r, news, muts, bs, kn')) : knOk ρ kn' ∧ (okOk ρ bs → Spec P ρ c.g args n σ r (n + news.length) (ext n σ news muts)) := by
  unfold Con.use at h
  simp only at h
  generalize hD : reach σ 1000 (args.flatMap V.ids) [] = D at h
  split at h
  · cases h
  · rename_i ds hds
    generalize hes : fitsA c.args ds = es at h
    generalize V.mats c.args es ⟨[], [], [], []⟩ = s at h
    split at h
    · rename_i hcnd
      simp only [Bool.and_eq_true] at hcnd
      cases h
      obtain ⟨h1, r0, bs0, h2, rfl, rfl, rfl, rfl⟩ := askT_ok hk hp
      refine ⟨h1, fun hok => ?_⟩
      have hok' : okOk (ρ.sub s) bs0 := fun b hb => by
        rw [← B.sub_den]; exact hok _ (List.mem_map.2 ⟨b, hb, rfl⟩)
      have k1 := (hc (ρ.sub s) r0 bs0 h2 hok' n).sub hcnd.1
      rw [V.sames_ok hcnd.2] at k1
      have k2 : Spec P ρ c.g ds n no (r0.sub s) n no := k1.weak fun β xs hF => by rw [← hes]; exact fitsA_ok hF
      cases hz : (r0.sub s).nofz with
      | true =>
        have k3 := k2.lend hds hz (fun _ _ e => by cases e)
        refine k3.fewer fun hlt id o ho => ?_
        rw [cond_true, ext_nil] at ho
        have := hlt id o ho
        unfold Sto.over
        rw [if_neg (by simp; omega), if_neg (by simp [no])]
        exact ho
      | false =>
        have k3 := k2.give hds
        refine k3.fewer fun hlt id o ho => ?_
        unfold ext at ho
        rw [if_neg (by simp [Nat.blt]; omega), cond_false, find_map] at ho
        have hl : id < n := by
          split at ho
          · rename_i x hx
            split at hx
            · cases hx
              cases e : σ id with
              | none => unfold frz at ho; rw [e] at ho; split at ho <;> cases ho
              | some o' => exact hlt id o' e
            · cases hx
          · exact hlt id o ho
        unfold Sto.over
        rw [if_neg (by simp; omega), if_neg (by simp [no])]
        split at ho
        · rename_i x hx
          split at hx
          · cases hx; exact ho
          · cases hx
        · rename_i hx
          split at hx
          · cases hx
          · rename_i hd
            unfold frz
            rw [if_neg hd]; exact ho
    · cases h
def tabC : List Con → TT
  | [] => noTab
  | c :: cs => fun g args n σ kn => if Nat.beq c.g g then (match c.use args σ kn with
      | some t => some t
      | none => tabC cs g args n σ kn)
    else tabC cs g args n σ kn
theorem tabC_ok {P : Program} {ρ : Env} : ∀ {cs : List Con}, (∀ c ∈ cs, ConOk P c) → TTOk P ρ (tabC cs)
  | [], _ => noTab_ok P ρ
  | c :: cs, h => by
    intro g args n σ kn t r news muts bs kn' hk ht hp
    have ih := tabC_ok (P := P) (ρ := ρ) (cs := cs) fun c hc => h c (by simp [hc])
    unfold tabC at ht
    split at ht
    · rename_i hg
      have := Nat.eq_of_beq_eq_true hg
      subst this
      split at ht
      · rename_i t' ht'
        cases ht
        exact Con.use_ok (h c (by simp)) hk ht' hp
      · exact ih _ args n σ kn t r news muts bs kn' hk ht hp
    · exact ih g args n σ kn t r news muts bs kn' hk ht hp
end Go.Proofs.Ytnklnboglijcbaa.E
