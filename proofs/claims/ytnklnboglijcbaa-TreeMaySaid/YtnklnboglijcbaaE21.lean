/- Code and functions, reckoned. Plain Lean over the kit's model; no program. -/
import Derived.Test.YtnklnboglijcbaaE20
namespace Go.Proofs.Ytnklnboglijcbaa.E
open Go Go.RowKit
set_option linter.unusedVariables false

/-- the first region of a piece of code: the name of a loop. -/
def regId : Code → Option Nat
  | .region id _ _ => some id
  | .seq a b => match regId a with
    | some i => some i
    | none => regId b
  | .block _ a => regId a
  | .loop a => regId a
  | .cond _ a b => match regId a with
    | some i => some i
    | none => regId b
  | _ => none
/-- the bodies of all loops. -/
def loopsIn : Code → List Code
  | .loop a => a :: loopsIn a
  | .seq a b => loopsIn a ++ loopsIn b
  | .block _ a => loopsIn a
  | .cond _ a b => loopsIn a ++ loopsIn b
  | _ => []
def bodyLoops (fn : Func) : List Code := match fn.body with
  | some c => loopsIn c
  | none => []

/-- what loops do, by their names. -/
abbrev LT := Nat → St → Option (T (Out × St))
def noLoops : LT := fun _ _ => none
def LTOk (P : Program) (ρ : Env) (nt : Nat) (S : List Code) (lp : LT) : Prop := ∀ a, a ∈ S → ∀ id, regId a = some id → ∀ s t e o s', lp id s = some t → e ≤ s.n → knOk ρ s.kn → t.pick ρ = some (o, s') →
  knOk ρ s'.kn ∧ e ≤ s'.n ∧ (okOk ρ s'.ok → (∃ k, TR P ρ e nt a k s.fr s.n s.σ o s'.fr s'.n s'.σ) ∧ okOk ρ s.ok)
theorem noLoops_ok (P : Program) (ρ : Env) (nt : Nat) (S : List Code) : LTOk P ρ nt S noLoops := fun _ _ _ _ _ _ _ _ _ h => by cases h

/-- two ends made one: which slots differ hangs on a truth. -/
def mkIteB (c a b : B) : B := mkNot (mkAnd (mkNot (mkAnd c a)) (mkNot (mkAnd (mkNot c) b)))

def dcode (P : Program) (ct : CT) (lp : LT) (nt : Nat) : Nat → Code → St → T (Out × St)
  | 0, _, _ => .dead
  | k + 1, c, s =>
    match c with
    | .skip => .leaf (.normal, s)
    | .ret => .leaf (.ret, s)
    | .exit id => .leaf (.exit id, s)
    | .region _ ops false => (dops P ct nt ops ops.toList s).bind fun s' => .leaf (.normal, s')
    | .region _ ops true => (drec P ct nt ops ops.toList s).bind fun q => if regChk ops (lx q.1 q.2) then .leaf (.normal, q.2) else .dead
    | .seq a b => (dcode P ct lp nt k a s).bind fun q => match q.1 with
      | .normal => dcode P ct lp nt k b q.2
      | o => .leaf (o, q.2)
    | .cond x a b => match opd s.fr x with
      | .bool c => ask c s.kn fun t kn => bif t then dcode P ct lp nt k a { s with kn := kn } else dcode P ct lp nt k b { s with kn := kn }
      | _ => .dead
    | .block id a => (dcode P ct lp nt k a s).bind fun q => match q.1 with
      | .exit j => if Nat.beq j id then .leaf (.normal, q.2) else .leaf (.exit j, q.2)
      | o => .leaf (o, q.2)
    | .loop a => match (match regId a with | some id => lp id s | none => none) with
      | some t => t
      | none => (dcode P ct lp nt k a s).bind fun q => match q.1 with
        | .normal => dcode P ct lp nt k (.loop a) q.2
        | o => .leaf (o, q.2)
    | _ => .dead

theorem dcode_ok {P : Program} {ρ : Env} (hm : P.follows .mixedOrders = true) {ct : CT} (hct : CTOk P ρ ct) {lp : LT} {e nt : Nat} {S : List Code} (hlp : LTOk P ρ nt S lp) : ∀ (k : Nat) (c : Code) (s : St) (o : Out) (s' : St), (∀ a, a ∈ loopsIn c → a ∈ S) → e ≤ s.n → knOk ρ s.kn → (dcode P ct lp nt k c s).pick ρ = some (o, s') →
    knOk ρ s'.kn ∧ e ≤ s'.n ∧ (okOk ρ s'.ok → TC P ρ e nt c s.fr s.n s.σ o s'.fr s'.n s'.σ ∧ okOk ρ s.ok ∧ (∀ a, c = .loop a → ∃ j, TR P ρ e nt a j s.fr s.n s.σ o s'.fr s'.n s'.σ))
  | 0, c, s, o, s', _, _, _, h => by cases h
  | k + 1, c, s, o, s', hS, he, hk, h => by
    have ih := dcode_ok hm hct hlp (e := e) k
    unfold dcode at h
    split at h
    · cases h; exact ⟨hk, he, fun hok => ⟨TC.skip, hok, fun _ e => by cases e⟩⟩
    · cases h; exact ⟨hk, he, fun hok => ⟨TC.ret, hok, fun _ e => by cases e⟩⟩
    · cases h; exact ⟨hk, he, fun hok => ⟨TC.exit, hok, fun _ e => by cases e⟩⟩
    · rename_i id ops
      obtain ⟨s1, h1, h2⟩ := T.bind_some h
      cases h2
      obtain ⟨g1, g2, g3⟩ := dops_ok hct he hk h1
      refine ⟨g1, g2, fun hok => ?_⟩
      obtain ⟨t1, t2⟩ := g3 hok
      refine ⟨?_, t2, fun _ e => by cases e⟩
      have := TC.region (P := P) (ρ := ρ) (e := e) (nt := nt) (id := id) (l := ops.toList) (by simpa using t1)
      simpa using this
    · rename_i id ops
      obtain ⟨q, h1, h2⟩ := T.bind_some h
      obtain ⟨rs, s1⟩ := q
      simp only at h2
      split at h2
      · rename_i hc
        cases h2
        obtain ⟨g1, g2, g3⟩ := drec_ok hct he hk h1
        refine ⟨g1, g2, fun hok => ?_⟩
        obtain ⟨t1, t2⟩ := g3 hok
        refine ⟨?_, t2, fun _ e => by cases e⟩
        have hl := TC.drawn (P := P) (e := e) hm (lx_ok t1 hc) (id := id)
        obtain ⟨z1, z2, z3⟩ := lx_zero t1
        have hlen : rs[ops.size]? = none := by
          have := recs_len t1
          simp at this
          simp [this]
        have e1 : (lx rs s').fr ops.size = s'.fr := by simp only [lx, hlen]
        have e2 : (lx rs s').n ops.size = s'.n := by simp only [lx, hlen]
        have e3 : (lx rs s').σ ops.size = s'.σ := by simp only [lx, hlen]
        rw [z1, z2, z3, e1, e2, e3] at hl
        exact hl
      · cases h2
    · rename_i a b
      have hSa : ∀ x, x ∈ loopsIn a → x ∈ S := fun x hx => hS x (by simp [loopsIn, hx])
      have hSb : ∀ x, x ∈ loopsIn b → x ∈ S := fun x hx => hS x (by simp [loopsIn, hx])
      obtain ⟨q, h1, h2⟩ := T.bind_some h
      obtain ⟨o1, s1⟩ := q
      obtain ⟨g1, g2, g3⟩ := ih a s o1 s1 hSa he hk h1
      simp only at h2
      split at h2
      · obtain ⟨k1, k2, k3⟩ := ih b s1 o s' hSb g2 g1 h2
        refine ⟨k1, k2, fun hok => ?_⟩
        obtain ⟨t1, t2, _⟩ := k3 hok
        obtain ⟨u1, u2, _⟩ := g3 t2
        exact ⟨TC.seq u1 t1, u2, fun _ e => by cases e⟩
      · rename_i hne
        cases h2
        refine ⟨g1, g2, fun hok => ?_⟩
        obtain ⟨u1, u2, _⟩ := g3 hok
        exact ⟨TC.seqOut u1 (fun e => hne e), u2, fun _ e => by cases e⟩
    · rename_i x a b
      have hSa : ∀ x, x ∈ loopsIn a → x ∈ S := fun x hx => hS x (by simp [loopsIn, hx])
      have hSb : ∀ x, x ∈ loopsIn b → x ∈ S := fun x hx => hS x (by simp [loopsIn, hx])
      split at h
      · rename_i bb hx
        obtain ⟨kn1, h1, h2⟩ := ask_ok bb (k := fun t kn => bif t then dcode P ct lp nt k a { s with kn := kn } else dcode P ct lp nt k b { s with kn := kn }) hk
        rw [h2] at h
        cases hb : bb.den ρ with
        | true =>
          rw [hb] at h
          obtain ⟨g1, g2, g3⟩ := ih a { s with kn := kn1 } o s' hSa he h1 h
          refine ⟨g1, g2, fun hok => ?_⟩
          obtain ⟨u1, u2, _⟩ := g3 hok
          exact ⟨TC.cond hx hb (by rw [if_pos rfl]; exact u1), u2, fun _ e => by cases e⟩
        | false =>
          rw [hb] at h
          obtain ⟨g1, g2, g3⟩ := ih b { s with kn := kn1 } o s' hSb he h1 h
          refine ⟨g1, g2, fun hok => ?_⟩
          obtain ⟨u1, u2, _⟩ := g3 hok
          exact ⟨TC.cond hx hb (by rw [if_neg (by simp)]; exact u1), u2, fun _ e => by cases e⟩
      · cases h
    · rename_i id a
      have hSa : ∀ x, x ∈ loopsIn a → x ∈ S := fun x hx => hS x (by simp [loopsIn, hx])
      obtain ⟨q, h1, h2⟩ := T.bind_some h
      obtain ⟨o1, s1⟩ := q
      obtain ⟨g1, g2, g3⟩ := ih a s o1 s1 hSa he hk h1
      simp only at h2
      split at h2
      · rename_i j
        split at h2
        · rename_i hj
          cases h2
          refine ⟨g1, g2, fun hok => ?_⟩
          obtain ⟨u1, u2, _⟩ := g3 hok
          have : j = id := Nat.eq_of_beq_eq_true hj
          subst this
          exact ⟨TC.block u1 (.inr rfl), u2, fun _ e => by cases e⟩
        · rename_i hj
          cases h2
          refine ⟨g1, g2, fun hok => ?_⟩
          obtain ⟨u1, u2, _⟩ := g3 hok
          exact ⟨TC.blockOut u1 (by simp) (fun e => hj (by cases e; simp)), u2, fun _ e => by cases e⟩
      · rename_i hne
        cases h2
        refine ⟨g1, g2, fun hok => ?_⟩
        obtain ⟨u1, u2, _⟩ := g3 hok
        refine ⟨?_, u2, fun _ e => by cases e⟩
        cases o with
        | normal => exact TC.block u1 (.inl rfl)
        | exit j => exact (hne _ rfl).elim
        | ret => exact TC.blockOut u1 (by simp) (by simp)
    · rename_i a
      have hSa : ∀ x, x ∈ loopsIn a → x ∈ S := fun x hx => hS x (by simp [loopsIn, hx])
      have key : knOk ρ s'.kn ∧ e ≤ s'.n ∧ (okOk ρ s'.ok → okOk ρ s.ok ∧ ∃ j, TR P ρ e nt a j s.fr s.n s.σ o s'.fr s'.n s'.σ) := by
        split at h
        · rename_i t ht
          split at ht
          · rename_i id hid
            obtain ⟨g1, g2, g3⟩ := hlp a (hS a (by simp [loopsIn])) id hid s t e o s' ht he hk h
            exact ⟨g1, g2, fun hok => ⟨(g3 hok).2, (g3 hok).1⟩⟩
          · cases ht
        · obtain ⟨q, h1, h2⟩ := T.bind_some h
          obtain ⟨o1, s1⟩ := q
          obtain ⟨g1, g2, g3⟩ := ih a s o1 s1 hSa he hk h1
          simp only at h2
          split at h2
          · obtain ⟨k1, k2, k3⟩ := ih (.loop a) s1 o s' hS g2 g1 h2
            refine ⟨k1, k2, fun hok => ?_⟩
            obtain ⟨_, t2, t3⟩ := k3 hok
            obtain ⟨u1, u2, _⟩ := g3 t2
            obtain ⟨j, hj⟩ := t3 a rfl
            exact ⟨u2, j + 1, TR.more u1 hj⟩
          · rename_i hne
            cases h2
            refine ⟨g1, g2, fun hok => ?_⟩
            obtain ⟨u1, u2, _⟩ := g3 hok
            exact ⟨u2, 1, TR.out u1 (fun e => hne e)⟩
      obtain ⟨k1, k2, k3⟩ := key
      refine ⟨k1, k2, fun hok => ?_⟩
      obtain ⟨t1, j, hj⟩ := k3 hok
      exact ⟨TC.loop hj, t1, fun _ e => by cases e; exact ⟨j, hj⟩⟩
    · cases h

/-- A function: its result, first free name and objects behind it; what must hold; what is known. -/
def dfun (P : Program) (ct : CT) (lp : LT) (k : Nat) (fn : Func) (args : List V) (n : Nat) (σ : Tr Ob) (kn : Kn) : T (V × St) :=
  match fn.body with
  | some c => if Nat.ble args.length fn.ntmps then (dcode P ct lp fn.ntmps k c ⟨putL .nil 0 args, n, σ, [], kn⟩).bind fun q => match q.1 with
      | .exit _ => .dead
      | _ => match resV P fn.results.toList q.2.fr q.2.σ with
        | some r => .leaf (r, q.2)
        | none => .dead
    else .dead
  | none => .dead
theorem dfun_ok {P : Program} {ρ : Env} (hm : P.follows .mixedOrders = true) {ct : CT} (hct : CTOk P ρ ct) {lp : LT} {k : Nat} {f : FuncId} {fn : Func} (hlp : LTOk P ρ fn.ntmps (bodyLoops fn) lp) (hf : P.funcs[f]? = some fn) (hn : (fn.name == "runtime.NumGoroutine") = false) {args : List V} {n : Nat} {σ : Tr Ob} {kn : Kn} (hk : knOk ρ kn) {r : V} {s' : St}
    (h : (dfun P ct lp k fn args n σ kn).pick ρ = some (r, s')) : knOk ρ s'.kn ∧ n ≤ s'.n ∧ (okOk ρ s'.ok → Spec P ρ f args n σ.get r s'.n s'.σ) := by
  unfold dfun at h
  unfold bodyLoops at hlp
  split at h
  · rename_i c hb
    rw [hb] at hlp
    split at h
    · rename_i hl
      obtain ⟨q, h1, h2⟩ := T.bind_some h
      obtain ⟨o1, s1⟩ := q
      obtain ⟨g1, g2, g3⟩ := dcode_ok hm hct hlp (e := n) k c _ o1 s1 (fun a ha => ha) (Nat.le_refl n) hk h1
      simp only at h2
      split at h2
      · cases h2
      · rename_i hne
        split at h2
        · rename_i r' hr
          cases h2
          refine ⟨g1, g2, fun hok => ?_⟩
          obtain ⟨t1, _, _⟩ := g3 hok
          rw [show (St.fr ⟨putL .nil 0 args, n, σ, [], kn⟩) = fr0 args from putL_fm args] at t1
          refine Spec.enter hf hn hb (Nat.le_of_ble_eq_true hl) t1 ?_ hr
          cases o1 with
          | normal => exact .inl rfl
          | ret => exact .inr rfl
          | exit j => exact (hne _ rfl).elim
        · cases h2
    · cases h
  · cases h

/-! ### tables -/
def noCalls : CT := fun _ _ _ _ _ => .dead
theorem noCalls_ok (P : Program) (ρ : Env) : CTOk P ρ noCalls := fun _ _ _ _ _ _ _ _ _ _ _ h => by cases h
/-- calls that are told; the others are carried out. -/
abbrev TT := FuncId → List V → Nat → Sto → Kn → Option (T CR)
def TTOk (P : Program) (ρ : Env) (tt : TT) : Prop := ∀ g args n σ kn t r news muts bs kn', knOk ρ kn → tt g args n σ kn = some t → t.pick ρ = some (r, news, muts, bs, kn') → knOk ρ kn' ∧ (okOk ρ bs → Spec P ρ g args n σ r (n + news.length) (ext n σ news muts))
def newsOf (n : Nat) (keep : List Nat) (σ : Sto) : Nat → List (Option Ob)
  | 0 => []
  | m + 1 => (if keep.contains n then σ n else none) :: newsOf (n + 1) keep σ m
theorem newsOf_len : ∀ (m n : Nat) (keep : List Nat) (σ : Sto), (newsOf n keep σ m).length = m
  | 0, _, _, _ => rfl
  | m + 1, n, keep, σ => by simp [newsOf, newsOf_len m]
theorem newsOf_get : ∀ {m n j : Nat} {keep : List Nat} {σ : Sto} {o : Ob}, (newsOf n keep σ m)[j]? = some (some o) → σ (n + j) = some o
  | 0, _, _, _, _, _, h => by cases h
  | m + 1, n, 0, keep, σ, o, h => by
    simp only [newsOf, List.getElem?_cons_zero, Option.some.injEq] at h
    split at h
    · simpa using h
    · cases h
  | m + 1, n, j + 1, keep, σ, o, h => by
    simp only [newsOf, List.getElem?_cons_succ] at h
    have := newsOf_get h
    rwa [show n + 1 + j = n + (j + 1) by omega] at this
theorem trOf_st (σ : Sto) (d : List Nat) : (trOf σ d).get = restr d σ := by
  funext id
  unfold restr
  induction d with
  | nil => rfl
  | cons a d ih =>
    rw [trOf, Tr.get_put, ih]
    by_cases h : id = a
    · subst h; simp
    · simp [h]
def inl (P : Program) (tt : TT) (lp : FuncId → LT) (fuel : Nat) : Nat → CT
  | 0 => fun _ _ _ _ _ => .dead
  | k + 1 => fun g args n σ kn => match tt g args n σ kn with
    | some t => t
    | none => match P.funcs[g]? with
      | none => .dead
      | some fn => if fn.name == "runtime.NumGoroutine" then .dead else
        let d := reach σ 1000 (args.flatMap V.ids) []
        if d.all (fun id => (σ id).isSome && Nat.blt id n) then
          (dfun P (inl P tt lp fuel k) (lp g) fuel fn args n (trOf σ d) kn).bind fun q =>
            .leaf (q.1, newsOf n (reach q.2.σ 1000 (q.1.ids ++ d) []) q.2.σ (q.2.n - n), d.map (fun id => (id, q.2.σ id)), q.2.ok, q.2.kn)
        else .dead
def LPOk (P : Program) (ρ : Env) (lp : FuncId → LT) : Prop := ∀ g fn, P.funcs[g]? = some fn → LTOk P ρ fn.ntmps (bodyLoops fn) (lp g)
theorem find_map (d : List Nat) (σ : Sto) (id : Nat) : (d.map fun id => (id, σ id)).find? (fun x => Nat.beq x.1 id) = if d.contains id then some (id, σ id) else none := by
  induction d with
  | nil => rfl
  | cons a d ih =>
    simp only [List.map_cons, List.find?_cons]
    cases h : Nat.beq a id with
    | true => have := Nat.eq_of_beq_eq_true h; subst this; simp
    | false =>
      have hne : id ≠ a := by rintro rfl; simp at h
      rw [ih]
      simp [hne]
theorem inl_ok {P : Program} {ρ : Env} (hm : P.follows .mixedOrders = true) {tt : TT} (htt : TTOk P ρ tt) {lp : FuncId → LT} (hlp : LPOk P ρ lp) (fuel : Nat) : ∀ k, CTOk P ρ (inl P tt lp fuel k)
  | 0 => fun _ _ _ _ _ _ _ _ _ _ _ h => by cases h
  | k + 1 => by
    intro g args n σ kn r news muts bs kn' hk h
    unfold inl at h
    split at h
    · rename_i t ht; exact htt g args n σ kn t r news muts bs kn' hk ht h
    · split at h
      · cases h
      · rename_i fn hf
        split at h
        · cases h
        · rename_i hn
          simp only at h
          generalize hd : reach σ 1000 (args.flatMap V.ids) [] = d at h
          split at h
          · rename_i hdom
            obtain ⟨q, h1, h2⟩ := T.bind_some h
            obtain ⟨r', s'⟩ := q
            cases h2
            obtain ⟨g1, g2, g3⟩ := dfun_ok hm (inl_ok hm htt hlp fuel k) (hlp g fn hf) hf (by simpa using hn) hk h1
            refine ⟨g1, fun hok => ?_⟩
            have hspec := g3 hok
            rw [trOf_st] at hspec
            have hle : (restr d σ).le σ := fun id o e => by
              unfold restr at e; split at e
              · exact e
              · cases e
            have hfr := hspec.frame hle
            rw [newsOf_len]
            have hn' : n + (s'.n - n) = s'.n := by omega
            rw [hn']
            refine ⟨hfr.there, fun β xs w hS hA => (hfr.calls β xs w hS hA).mono fun e w' ⟨x, β', he, hR, hS', st⟩ => ?_⟩
            have hless : (ext n σ (newsOf n (reach s'.σ 1000 (r'.ids ++ d) []) s'.σ (s'.n - n)) (d.map fun id => (id, s'.σ id))).le (Sto.over n σ (restr d σ) s'.σ) := by
              intro id o e1
              unfold ext at e1
              unfold Sto.over
              rw [newsOf_len] at e1
              split at e1
              · rename_i hc
                simp only [Bool.and_eq_true] at hc
                have hge : n ≤ id := Nat.le_of_ble_eq_true hc.1
                rw [if_pos hc.1]
                split at e1
                · rename_i o' ho'
                  subst e1
                  have := newsOf_get ho'
                  rwa [show n + (id - n) = id by omega] at this
                · cases e1
              · rename_i hc
                rw [find_map] at e1
                cases hcd : d.contains id with
                | true =>
                  rw [hcd] at e1
                  simp only [if_true] at e1
                  have hin := List.all_eq_true.1 hdom id (by simpa using hcd)
                  simp only [Bool.and_eq_true] at hin
                  have hlt : id < n := Nat.le_of_ble_eq_true hin.2
                  rw [if_neg (by simp; omega), if_pos (by unfold restr; rw [if_pos hcd]; exact hin.1)]
                  exact e1
                | false =>
                  rw [hcd] at e1
                  simp only [Bool.false_eq_true, if_false] at e1
                  have hlt : id < n := by
                    obtain ⟨q, hq, _⟩ := hS.ob id o e1
                    exact hS.lt hq
                  rw [if_neg (by simp; omega), if_neg (by unfold restr; rw [hcd]; simp)]
                  exact e1
            exact ⟨x, β', he, hR, hS'.drop hless, st.dropEnd hless⟩
          · cases h
def noTab : TT := fun _ _ _ _ _ => none
theorem noTab_ok (P : Program) (ρ : Env) : TTOk P ρ noTab := fun _ _ _ _ _ _ _ _ _ _ _ _ h => by cases h
def noLp : FuncId → LT := fun _ => noLoops
theorem noLp_ok (P : Program) (ρ : Env) : LPOk P ρ noLp := fun _ _ _ => noLoops_ok P ρ _ _
/-- a function of the program, from scratch. -/
def exec (P : Program) (tt : TT) (lp : FuncId → LT) (fuel depth : Nat) (g : FuncId) (args : List V) : T (V × St) := match P.funcs[g]? with
  | some fn => if fn.name == "runtime.NumGoroutine" then .dead else dfun P (inl P tt lp fuel depth) (lp g) fuel fn args 0 .nil []
  | none => .dead
theorem exec_ok {P : Program} {ρ : Env} (hm : P.follows .mixedOrders = true) {tt : TT} (htt : TTOk P ρ tt) {lp : FuncId → LT} (hlp : LPOk P ρ lp) {fuel depth : Nat} {g : FuncId} {args : List V} {r : V} {s : St} (h : (exec P tt lp fuel depth g args).pick ρ = some (r, s)) (hok : okOk ρ s.ok) : Spec P ρ g args 0 no r s.n s.σ := by
  unfold exec at h
  split at h
  · rename_i fn hf
    split at h
    · cases h
    · rename_i hn
      exact (dfun_ok hm (inl_ok hm htt hlp fuel depth) (hlp g fn hf) hf (by simpa using hn) (fun x hx => by cases hx) h).2.2 hok
  · cases h
end Go.Proofs.Ytnklnboglijcbaa.E
