/- What loops do, told once and used. Plain Lean over the kit's model; no program. -/
import Derived.Test.YtnklnboglijcbaaE25
namespace Go.Proofs.Ytnklnboglijcbaa.E
open Go Go.RowKit
set_option linter.unusedVariables false

def frOf : List (Nat × V) → Tr V
  | [] => .nil
  | p :: l => (frOf l).put p.1 (some p.2)
def obOf : List (Nat × Ob) → Tr Ob
  | [] => .nil
  | p :: l => (obOf l).put p.1 (some p.2)
/-- a state, from lists. -/
def stOf (fr : List (Nat × V)) (n : Nat) (ob : List (Nat × Ob)) (ok : List B) (kn : Kn) : St := ⟨frOf fr, n, obOf ob, ok, kn⟩
structure LRes where
  o : Out
  fr : List (Nat × V)
  n : Nat
  ob : List (Nat × Ob)
  ok : List B
structure LCon where
  g : FuncId
  id : Nat
  fr : List (Nat × V)
  n : Nat
  ob : List (Nat × Ob)
  t : T LRes
def theLoop (P : Program) (g : FuncId) (id : Nat) : Option (Nat × Code) := match P.funcs[g]? with
  | some fn => match (bodyLoops fn).filter (fun a => regId a == some id) with
    | [a] => some (fn.ntmps, a)
    | _ => none
  | none => none
def LConOk (P : Program) (c : LCon) : Prop := ∃ nt a, theLoop P c.g c.id = some (nt, a) ∧ ∀ ρ r, c.t.pick ρ = some r → c.n ≤ r.n ∧ (okOk ρ r.ok → ∀ e, e ≤ c.n → ∃ k, TR P ρ e nt a k (fmOf (frOf c.fr)) c.n (obOf c.ob).get r.o (fmOf (frOf r.fr)) r.n (obOf r.ob).get)

/-! ### use -/
def fitR0 (c r : Row) : Row := match c with
  | .ints k _ => match r.asInts k with
    | some l => .ints k l
    | none => r
  | _ => r
theorem fitR0_ok {ρ : Env} {c r : Row} : Row.imp ρ r (fitR0 c r) := by
  intro β xs e h
  unfold fitR0
  split
  · split
    · rename_i l hl
      exact RH.ofFr (show Fr (.ints _ l) β.g xs by simp only [Fr]; exact Row.asInts_ok h hl)
    · exact h
  · exact h
/-- the rows that stand in these objects. -/
def rowsOf (σ : Sto) : List (Nat × Ob) → Option (List Row)
  | [] => some []
  | p :: l => match σ p.1 with
    | some o => if (o.rw == p.2.rw) && Nat.beq o.e p.2.e then match rowsOf σ l with
        | some rs => some (fitR0 p.2.row o.row :: rs)
        | none => none
      else none
    | none => none
def matsR : List (Nat × Ob) → List Row → Sub → Sub
  | p :: l, r :: rs, s => matsR l rs (Row.mat p.2.row r s)
  | _, _, s => s
def samesR (s : Sub) : List (Nat × Ob) → List Row → Bool
  | [], [] => true
  | p :: l, r :: rs => (p.2.row.sub s).same r && samesR s l rs
  | _, _ => false
def LRes.sub (r : LRes) (s : Sub) (ok : List B) (kn : Kn) : Out × St :=
  (r.o, stOf (r.fr.map fun p => (p.1, p.2.sub s)) r.n (r.ob.map fun p => (p.1, p.2.sub s)) (addOk kn (r.ok.map (·.sub s)) ok) kn)
def askL (s : Sub) (ok : List B) : T LRes → Kn → T (Out × St)
  | .leaf r, kn => .leaf (r.sub s ok kn)
  | .br c l r, kn => ask (c.sub s) kn fun t kn => bif t then askL s ok l kn else askL s ok r kn
  | .dead, _ => .dead
theorem askL_ok {ρ : Env} {s : Sub} {ok : List B} : ∀ {t : T LRes} {kn : Kn} {q : Out × St}, knOk ρ kn → (askL s ok t kn).pick ρ = some q → ∃ r kn', knOk ρ kn' ∧ t.pick (ρ.sub s) = some r ∧ q = r.sub s ok kn'
  | .leaf r, kn, q, hk, h => by
    simp only [askL, T.pick, Option.some.injEq] at h
    exact ⟨r, kn, hk, rfl, h.symm⟩
  | .br c l r, kn, q, hk, h => by
    unfold askL at h
    obtain ⟨kn1, h1, h2⟩ := ask_ok (c.sub s) (k := fun t kn => bif t then askL s ok l kn else askL s ok r kn) hk
    rw [h2, B.sub_den] at h
    cases hc : c.den (ρ.sub s) with
    | true =>
      rw [hc] at h
      simp only [T.pick, hc, cond_true]
      exact askL_ok h1 h
    | false =>
      rw [hc] at h
      simp only [T.pick, hc, cond_false]
      exact askL_ok h1 h
  | .dead, _, _, _, h => by cases h
def LCon.use (c : LCon) (s : St) : Option (T (Out × St)) :=
  if Nat.beq s.n c.n then match rowsOf s.σ c.ob with
    | none => none
    | some rs =>
      let vs := fitsA (c.fr.map (·.2)) (c.fr.map fun p => s.fr p.1)
      let q := matsR c.ob rs (V.mats (c.fr.map (·.2)) vs ⟨[], [], [], []⟩)
      if q.noix && V.sames (V.subs (c.fr.map (·.2)) q) vs && samesR q c.ob rs then some (askL q s.ok c.t s.kn) else none
  else none

theorem frOf_get : ∀ (l : List (Nat × V)) (t : Nat) (v : V), (frOf l).get t = some v → (t, v) ∈ l
  | [], t, v, h => by cases h
  | p :: l, t, v, h => by
    unfold frOf at h
    rw [Tr.get_put] at h
    split at h
    · rename_i e; subst e; cases h; simp
    · exact List.mem_cons_of_mem _ (frOf_get l t v h)
theorem obOf_get : ∀ (l : List (Nat × Ob)) (t : Nat) (v : Ob), (obOf l).get t = some v → (t, v) ∈ l
  | [], t, v, h => by cases h
  | p :: l, t, v, h => by
    unfold obOf at h
    rw [Tr.get_put] at h
    split at h
    · rename_i e; subst e; cases h; simp
    · exact List.mem_cons_of_mem _ (obOf_get l t v h)
theorem frOf_sub (s : Sub) : ∀ (l : List (Nat × V)), Fm.sub (fmOf (frOf l)) s = fmOf (frOf (l.map fun p => (p.1, p.2.sub s)))
  | [] => by funext t; simp [Fm.sub, fmOf, frOf, Tr.get, V.sub]
  | p :: l => by
    have ih := frOf_sub s l
    funext t
    have iht := congrFun ih t
    simp only [Fm.sub, fmOf, frOf, List.map_cons, Tr.get_put] at iht ⊢
    by_cases e : t = p.1
    · simp [e]
    · simp only [if_neg e]; exact iht
theorem obOf_sub (s : Sub) : ∀ (l : List (Nat × Ob)), Sto.sub (obOf l).get s = (obOf (l.map fun p => (p.1, p.2.sub s))).get
  | [] => rfl
  | p :: l => by
    have ih := obOf_sub s l
    funext t
    have iht := congrFun ih t
    simp only [Sto.sub, obOf, List.map_cons, Tr.get_put] at iht ⊢
    by_cases e : t = p.1
    · simp [e]
    · simp only [if_neg e]; exact iht
theorem imps_fr {ρ : Env} {fr : Fm} {s : Sub} : ∀ {l : List (Nat × V)}, V.subs (l.map (·.2)) s = fitsA (l.map (·.2)) (l.map fun p => fr p.1) → ∀ p ∈ l, V.imp ρ (fr p.1) (p.2.sub s)
  | [], _, p, hp => by cases hp
  | q :: l, h, p, hp => by
    simp only [List.map_cons, V.subs, fitsA, List.cons.injEq] at h
    rcases List.mem_cons.1 hp with rfl | hp
    · rw [h.1]; exact fun β x e hr => fitA_ok hr
    · exact imps_fr h.2 p hp
theorem imps_ob {ρ : Env} {σ : Sto} {s : Sub} : ∀ {l : List (Nat × Ob)} {rs : List Row}, rowsOf σ l = some rs → samesR s l rs = true → ∀ p ∈ l, ∃ o, σ p.1 = some o ∧ o.rw = p.2.rw ∧ o.e = p.2.e ∧ Row.imp ρ o.row (p.2.row.sub s)
  | [], _, _, _, p, hp => by cases hp
  | q :: l, rs, h, hs, p, hp => by
    unfold rowsOf at h
    split at h
    · rename_i o ho
      split at h
      · rename_i hc
        simp only [Bool.and_eq_true, beq_iff_eq] at hc
        split at h
        · rename_i rs' hrs
          cases h
          simp only [samesR, Bool.and_eq_true] at hs
          rcases List.mem_cons.1 hp with rfl | hp
          · exact ⟨o, ho, hc.1, Nat.eq_of_beq_eq_true hc.2, by rw [Row.same_ok hs.1]; exact fitR0_ok⟩
          · exact imps_ob hrs hs.2 p hp
        · cases h
      · cases h
    · cases h
theorem LCon.use_ok {P : Program} {ρ : Env} {c : LCon} (hc : LConOk P c) {nt : Nat} {a : Code} (ha : theLoop P c.g c.id = some (nt, a)) {s : St} {t : T (Out × St)} {e : Nat} {o : Out} {s' : St} (h : c.use s = some t) (he : e ≤ s.n) (hk : knOk ρ s.kn) (hp : t.pick ρ = some (o, s')) :
    knOk ρ s'.kn ∧ e ≤ s'.n ∧ (okOk ρ s'.ok → (∃ k, TR P ρ e nt a k s.fr s.n s.σ o s'.fr s'.n s'.σ) ∧ okOk ρ s.ok) := by
  obtain ⟨nt', a', ha', hc⟩ := hc
  rw [ha] at ha'; cases ha'
  unfold LCon.use at h
  split at h
  · rename_i hn
    have hn := Nat.eq_of_beq_eq_true hn
    split at h
    · cases h
    · rename_i rs hrs
      simp only at h
      generalize hq : matsR c.ob rs _ = q at h
      split at h
      · rename_i hcnd
        simp only [Bool.and_eq_true] at hcnd
        cases h
        obtain ⟨r, kn', h1, h2, h3⟩ := askL_ok hk hp
        cases h3
        refine ⟨h1, ?_, fun hok => ?_⟩
        · have := (hc (ρ.sub q) r h2).1
          show e ≤ r.n
          omega
        · obtain ⟨k1, k2⟩ := addOk_ok h1 hok
          have hokr : okOk (ρ.sub q) r.ok := fun b hb => by rw [← B.sub_den]; exact k1 _ (List.mem_map.2 ⟨b, hb, rfl⟩)
          obtain ⟨k, hTR⟩ := (hc (ρ.sub q) r h2).2 hokr e (by omega)
          refine ⟨⟨k, ?_⟩, k2⟩
          have hTR := hTR.sub hcnd.1.1
          rw [frOf_sub, obOf_sub, frOf_sub, obOf_sub] at hTR
          rw [hn]
          refine hTR.imp (fun t => ?_) (fun id o' ho' => ?_) (Fm.imp.refl _ _) (Sto.imp.refl _ _)
          · unfold fmOf
            cases hg : (frOf (c.fr.map fun p => (p.1, p.2.sub q))).get t with
            | none => exact V.imp.und _ _
            | some v =>
              have := frOf_get _ _ _ hg
              obtain ⟨p, hp1, hp2⟩ := List.mem_map.1 this
              cases hp2
              exact imps_fr (V.sames_ok hcnd.1.2) p hp1
          · have := obOf_get _ _ _ ho'
            obtain ⟨p, hp1, hp2⟩ := List.mem_map.1 this
            cases hp2
            exact imps_ob hrs hcnd.2 p hp1
      · cases h
  · cases h
/-- the loops that are told. -/
def lpC : List LCon → FuncId → LT
  | [] => noLp
  | c :: cs => fun g id s => if Nat.beq c.g g && Nat.beq c.id id then (match c.use s with
      | some t => some t
      | none => lpC cs g id s)
    else lpC cs g id s
theorem theLoop_eq {P : Program} {g id nt : Nat} {a : Code} (h : theLoop P g id = some (nt, a)) {fn : Func} (hf : P.funcs[g]? = some fn) {b : Code} (hb : b ∈ bodyLoops fn) (hid : regId b = some id) : nt = fn.ntmps ∧ a = b := by
  unfold theLoop at h
  rw [hf] at h
  simp only at h
  split at h
  · rename_i a' ha
    cases h
    have : b ∈ (bodyLoops fn).filter (fun a => regId a == some id) := List.mem_filter.2 ⟨hb, by simp [hid]⟩
    rw [ha] at this
    exact ⟨rfl, (List.mem_singleton.1 this).symm⟩
  · cases h
theorem lpC_ok {P : Program} {ρ : Env} : ∀ {cs : List LCon}, (∀ c ∈ cs, LConOk P c) → LPOk P ρ (lpC cs)
  | [], _ => noLp_ok P ρ
  | c :: cs, h => by
    intro g fn hf a ha id hid s t e o s' ht he hk hp
    have ih := lpC_ok (P := P) (ρ := ρ) (cs := cs) fun c hc => h c (by simp [hc])
    unfold lpC at ht
    split at ht
    · rename_i hg
      simp only [Bool.and_eq_true] at hg
      have e1 := Nat.eq_of_beq_eq_true hg.1
      have e2 := Nat.eq_of_beq_eq_true hg.2
      subst e1 e2
      split at ht
      · rename_i t' ht'
        cases ht
        have hc := h c (by simp)
        obtain ⟨nt, a', h1, _⟩ := id hc
        obtain ⟨rfl, rfl⟩ := theLoop_eq h1 hf ha hid
        exact LCon.use_ok hc h1 ht' he hk hp
      · exact ih c.g fn hf a ha c.id hid s t e o s' ht he hk hp
    · exact ih g fn hf a ha id hid s t e o s' ht he hk hp

/-! ### one round -/
theorem loopsIn_trans : ∀ (c : Code) {a b : Code}, a ∈ loopsIn c → b ∈ loopsIn a → b ∈ loopsIn c := by
  intro c
  induction c with
  | loop x ih =>
    intro a b ha hb
    simp only [loopsIn, List.mem_cons] at ha ⊢
    rcases ha with rfl | ha
    · exact .inr hb
    · exact .inr (ih ha hb)
  | seq x y ihx ihy =>
    intro a b ha hb
    simp only [loopsIn, List.mem_append] at ha ⊢
    rcases ha with ha | ha
    · exact .inl (ihx ha hb)
    · exact .inr (ihy ha hb)
  | block _ x ih => intro a b ha hb; exact ih (by simpa [loopsIn] using ha) hb
  | cond _ x y ihx ihy =>
    intro a b ha hb
    simp only [loopsIn, List.mem_append] at ha ⊢
    rcases ha with ha | ha
    · exact .inl (ihx ha hb)
    · exact .inr (ihy ha hb)
  | _ => intro a b ha hb; simp [loopsIn] at ha
theorem loopsIn_sub {fn : Func} {a b : Code} (ha : a ∈ bodyLoops fn) (hb : b ∈ loopsIn a) : b ∈ bodyLoops fn := by
  unfold bodyLoops at ha ⊢
  split at ha
  · exact loopsIn_trans _ ha hb
  · cases ha
/-- what one round gives, from a state told by lists. -/
def roundT (P : Program) (tt : TT) (lp : FuncId → LT) (fuel depth : Nat) (g id : Nat) (fr : List (Nat × V)) (n : Nat) (ob : List (Nat × Ob)) (kn : Kn) : T (Out × St) := match theLoop P g id with
  | some (nt, a) => dcode P (inl P tt lp fuel depth) (lp g) nt fuel a (stOf fr n ob [] kn)
  | none => .dead
theorem round_ok {P : Program} (hm : P.follows .mixedOrders = true) {ρ : Env} {tt : TT} (htt : TTOk P ρ tt) {lp : FuncId → LT} (hlp : LPOk P ρ lp) {fuel depth g id n nt : Nat} {a : Code} (ha : theLoop P g id = some (nt, a)) {fr : List (Nat × V)} {ob : List (Nat × Ob)} {kn : Kn} (hk : knOk ρ kn) {o : Out} {s' : St}
    (h : (roundT P tt lp fuel depth g id fr n ob kn).pick ρ = some (o, s')) : n ≤ s'.n ∧ (okOk ρ s'.ok → ∀ e, e ≤ n → TC P ρ e nt a (fmOf (frOf fr)) n (obOf ob).get o s'.fr s'.n s'.σ) := by
  unfold roundT at h
  rw [ha] at h
  simp only at h
  have hfn : ∃ fn, P.funcs[g]? = some fn ∧ fn.ntmps = nt ∧ a ∈ bodyLoops fn := by
    unfold theLoop at ha
    split at ha
    · rename_i fn hf
      split at ha
      · rename_i a' hfl
        cases ha
        have : a ∈ (bodyLoops fn).filter (fun a => regId a == some id) := by rw [hfl]; simp
        exact ⟨fn, hf, rfl, (List.mem_filter.1 this).1⟩
      · cases ha
    · cases ha
  obtain ⟨fn, hf, hnt, hmem⟩ := hfn
  subst hnt
  have key := fun e (he : e ≤ n) => dcode_ok hm (inl_ok hm htt hlp fuel depth) (lp := lp g) (e := e) (S := bodyLoops fn) (hlp g fn hf) fuel a (stOf fr n ob [] kn) o s' (fun b hb => loopsIn_sub hmem hb) he hk h
  exact ⟨(key n (Nat.le_refl _)).2.1, fun hok e he => ((key e he).2.2 hok).1⟩
end Go.Proofs.Ytnklnboglijcbaa.E
