/- Code and functions, reckoned. Plain Lean over the kit's model; no program. -/
import Derived.Test.YtnklnboglijcbaaD11
namespace Go.Proofs.Ytnklnboglijcbaa.D
open Go Go.RowKit
set_option linter.unusedVariables false

/-- the first region of a piece of code: the name of a loop. -/
def regId : Code → Option Nat
  | .region id _ _ => some id
  | .seq a b => match regId a with
    | some i => some i
    | none => regId b
  | .block _ a => regId a
  | .loop a => regId a
  | .cond _ a b => match regId a with
    | some i => some i
    | none => regId b
  | _ => none
/-- the bodies of all loops. -/
def loopsIn : Code → List Code
  | .loop a => a :: loopsIn a
  | .seq a b => loopsIn a ++ loopsIn b
  | .block _ a => loopsIn a
  | .cond _ a b => loopsIn a ++ loopsIn b
  | _ => []

/-- what loops do, by their names. -/
abbrev LT := Nat → Fr → Nat → Sto → Option ((Out × Fr × Nat × Sto) × Bool)
def noLoops : LT := fun _ _ _ _ => none
def LTOk (P : Program) (nt : Nat) (S : List Code) (lp : LT) : Prop := ∀ a, a ∈ S → ∀ id, regId a = some id → ∀ fr n σ o fr' n' σ', lp id fr n σ = some ((o, fr', n', σ'), true) → ∃ k, TR P nt a k fr n σ o fr' n' σ'
theorem noLoops_ok (P : Program) (nt : Nat) (S : List Code) : LTOk P nt S noLoops := fun _ _ _ _ _ _ _ _ _ _ _ h => by cases h

def dcode (P : Program) (ct : CT) (φ : Way) (lp : LT) (nt : Nat) : Nat → Code → St → Option (Out × St)
  | 0, _, _ => none
  | k + 1, c, s =>
    match c with
    | .skip => some (.normal, s)
    | .ret => some (.ret, s)
    | .exit id => some (.exit id, s)
    | .region _ ops false => match dops P ct φ nt ops ops.toList s with
      | some s' => some (.normal, s')
      | none => none
    | .region _ ops true => match drec P ct φ nt ops ops.toList s with
      | some (rs, s') => if regChk ops (lx rs s') then some (.normal, s') else none
      | none => none
    | .seq a b => match dcode P ct φ lp nt k a s with
      | some (.normal, s1) => dcode P ct φ lp nt k b s1
      | r => r
    | .cond x a b => match boolOf (opd s.fr x) with
      | some t => if br φ s.i t then dcode P ct φ lp nt k a { s with i := s.i + 1, ok := ck φ s.i t && s.ok } else dcode P ct φ lp nt k b { s with i := s.i + 1, ok := ck φ s.i t && s.ok }
      | none => none
    | .block id a => match dcode P ct φ lp nt k a s with
      | some (.exit j, s1) => if Nat.beq j id then some (.normal, s1) else some (.exit j, s1)
      | r => r
    | .loop a => match (match regId a with | some id => lp id s.fr s.n s.σ | none => none) with
      | some ((o, fr', n', σ'), c) => some (o, ⟨fr', n', σ', s.i, c && s.ok⟩)
      | none => match dcode P ct φ lp nt k a s with
        | some (.normal, s1) => dcode P ct φ lp nt k (.loop a) s1
        | r => r
    | _ => none

theorem dcode_ok {P : Program} (hm : P.follows .mixedOrders = true) {ct : CT} (hct : CTOk P ct) {φ : Way} {lp : LT} {nt : Nat} {S : List Code} (hlp : LTOk P nt S lp) : ∀ (k : Nat) (c : Code) (s : St) (o : Out) (s' : St), (∀ a, a ∈ loopsIn c → a ∈ S) → dcode P ct φ lp nt k c s = some (o, s') → s'.ok = true →
    TC P nt c s.fr s.n s.σ o s'.fr s'.n s'.σ ∧ s.ok = true ∧ (∀ a, c = .loop a → ∃ j, TR P nt a j s.fr s.n s.σ o s'.fr s'.n s'.σ)
  | 0, c, s, o, s', _, h, _ => by cases h
  | k + 1, c, s, o, s', hS, h, hok => by
    have ih := dcode_ok hm hct hlp (φ := φ) k
    unfold dcode at h
    split at h
    · cases h; exact ⟨TC.skip, hok, fun _ e => by cases e⟩
    · cases h; exact ⟨TC.ret, hok, fun _ e => by cases e⟩
    · cases h; exact ⟨TC.exit, hok, fun _ e => by cases e⟩
    · rename_i id ops
      split at h
      · rename_i hd; cases h
        obtain ⟨h1, h2⟩ := dops_ok hct hd hok
        refine ⟨?_, h2, fun _ e => by cases e⟩
        have := TC.region (P := P) (nt := nt) (id := id) (l := ops.toList) (by simpa using h1)
        simpa using this
      · cases h
    · rename_i id ops
      split at h
      · rename_i rs s1 hd
        split at h
        · rename_i hc
          cases h
          obtain ⟨h1, h2⟩ := drec_ok hct hd hok
          refine ⟨?_, h2, fun _ e => by cases e⟩
          have hl := TC.drawn (P := P) hm (lx_ok h1 hc) (id := id)
          obtain ⟨z1, z2, z3⟩ := lx_zero h1
          have hlen : rs[ops.size]? = none := by
            have := recs_len h1
            simp at this
            simp [this]
          have e1 : (lx rs s').fr ops.size = s'.fr := by simp only [lx, hlen]
          have e2 : (lx rs s').n ops.size = s'.n := by simp only [lx, hlen]
          have e3 : (lx rs s').σ ops.size = s'.σ := by simp only [lx, hlen]
          rw [z1, z2, z3, e1, e2, e3] at hl
          exact hl
        · cases h
      · cases h
    · rename_i a b
      have hSa : ∀ x, x ∈ loopsIn a → x ∈ S := fun x hx => hS x (by simp [loopsIn, hx])
      have hSb : ∀ x, x ∈ loopsIn b → x ∈ S := fun x hx => hS x (by simp [loopsIn, hx])
      split at h
      · rename_i s1 h1
        obtain ⟨t1, k1, _⟩ := ih b s1 o s' hSb h hok
        obtain ⟨t2, k2, _⟩ := ih a s .normal s1 hSa h1 k1
        exact ⟨TC.seq t2 t1, k2, fun _ e => by cases e⟩
      · rename_i h2
        obtain ⟨t1, k1, _⟩ := ih a s o s' hSa h hok
        exact ⟨TC.seqOut t1 (fun e => by subst e; exact h2 _ h), k1, fun _ e => by cases e⟩
    · rename_i x a b
      have hSa : ∀ x, x ∈ loopsIn a → x ∈ S := fun x hx => hS x (by simp [loopsIn, hx])
      have hSb : ∀ x, x ∈ loopsIn b → x ∈ S := fun x hx => hS x (by simp [loopsIn, hx])
      split at h
      · rename_i t ht
        have hx := boolOf_ok ht
        split at h
        · rename_i hb
          obtain ⟨t1, k1, _⟩ := ih a _ o s' hSa h hok
          simp only [Bool.and_eq_true] at k1
          rw [br_ok k1.1] at hb
          exact ⟨TC.cond hx (by rw [if_pos hb]; exact t1), k1.2, fun _ e => by cases e⟩
        · rename_i hb
          obtain ⟨t1, k1, _⟩ := ih b _ o s' hSb h hok
          simp only [Bool.and_eq_true] at k1
          rw [br_ok k1.1] at hb
          exact ⟨TC.cond hx (by rw [if_neg hb]; exact t1), k1.2, fun _ e => by cases e⟩
      · cases h
    · rename_i id a
      have hSa : ∀ x, x ∈ loopsIn a → x ∈ S := fun x hx => hS x (by simp [loopsIn, hx])
      split at h
      · rename_i j s1 h1
        split at h
        · rename_i hj
          cases h
          obtain ⟨t1, k1, _⟩ := ih a s _ s' hSa h1 hok
          have : j = id := Nat.eq_of_beq_eq_true hj
          subst this
          exact ⟨TC.block t1 (.inr rfl), k1, fun _ e => by cases e⟩
        · rename_i hj
          cases h
          obtain ⟨t1, k1, _⟩ := ih a s _ s' hSa h1 hok
          exact ⟨TC.blockOut t1 (by simp) (fun e => hj (by cases e; simp)), k1, fun _ e => by cases e⟩
      · rename_i h2
        obtain ⟨t1, k1, _⟩ := ih a s o s' hSa h hok
        refine ⟨?_, k1, fun _ e => by cases e⟩
        cases o with
        | normal => exact TC.block t1 (.inl rfl)
        | exit j => exact (h2 _ _ h).elim
        | ret => exact TC.blockOut t1 (by simp) (by simp)
    · rename_i a
      have hSa : ∀ x, x ∈ loopsIn a → x ∈ S := fun x hx => hS x (by simp [loopsIn, hx])
      have key : s.ok = true ∧ ∃ j, TR P nt a j s.fr s.n s.σ o s'.fr s'.n s'.σ := by
        split at h
        · rename_i o1 fr1 n1 σ1 c hl
          cases h
          simp only [Bool.and_eq_true] at hok
          refine ⟨hok.2, ?_⟩
          rw [hok.1] at hl
          split at hl
          · rename_i id hid
            exact hlp a (hS a (by simp [loopsIn])) id hid _ _ _ _ _ _ _ hl
          · cases hl
        · split at h
          · rename_i s1 h1
            obtain ⟨_, k1, k2⟩ := ih (.loop a) s1 o s' hS h hok
            obtain ⟨t2, k3, _⟩ := ih a s .normal s1 hSa h1 k1
            obtain ⟨j, hj⟩ := k2 a rfl
            exact ⟨k3, j + 1, TR.more t2 hj⟩
          · rename_i h2
            obtain ⟨t1, k1, _⟩ := ih a s o s' hSa h hok
            exact ⟨k1, 1, TR.out t1 (fun e => by subst e; exact h2 _ h)⟩
      obtain ⟨k1, j, hj⟩ := key
      exact ⟨TC.loop hj, k1, fun _ e => by cases e; exact ⟨j, hj⟩⟩
    · cases h

/-- A function: its result, first free name and objects behind it; the tests met; all answers right? -/
def dfun (P : Program) (ct : CT) (φ : Way) (lp : LT) (k : Nat) (fn : Func) (args : List V) (n : Nat) (σ : Sto) : Option ((V × Nat × Sto) × Nat × Bool) :=
  match fn.body with
  | some c => match dcode P ct φ lp fn.ntmps k c ⟨fr0 args, n, σ, 0, true⟩ with
    | some (.normal, s') | some (.ret, s') => match resV P fn.results.toList s'.fr s'.σ with
      | some r => if Nat.ble args.length fn.ntmps then some ((r, s'.n, s'.σ), s'.i, s'.ok) else none
      | none => none
    | _ => none
  | none => none

def bodyLoops (fn : Func) : List Code := match fn.body with
  | some c => loopsIn c
  | none => []

theorem dfun_ok {P : Program} (hm : P.follows .mixedOrders = true) {ct : CT} (hct : CTOk P ct) {φ : Way} {lp : LT} {k : Nat} {f : FuncId} {fn : Func} (hlp : LTOk P fn.ntmps (bodyLoops fn) lp) (hf : P.funcs[f]? = some fn) (hn : (fn.name == "runtime.NumGoroutine") = false) {args : List V} {n n' i : Nat} {σ σ' : Sto} {r : V} {ok : Bool}
    (h : dfun P ct φ lp k fn args n σ = some ((r, n', σ'), i, ok)) (hok : ok = true) : Spec P f args n σ r n' σ' := by
  unfold dfun at h
  unfold bodyLoops at hlp
  split at h
  · rename_i c hb
    rw [hb] at hlp
    split at h
    · rename_i hd
      split at h
      · rename_i hr
        split at h
        · rename_i hl; cases h; exact Spec.enter hf hn hb (Nat.le_of_ble_eq_true hl) (dcode_ok hm hct hlp _ _ _ _ _ (fun a ha => ha) hd hok).1 (.inl rfl) hr
        · cases h
      · cases h
    · rename_i hd
      split at h
      · rename_i hr
        split at h
        · rename_i hl; cases h; exact Spec.enter hf hn hb (Nat.le_of_ble_eq_true hl) (dcode_ok hm hct hlp _ _ _ _ _ (fun a ha => ha) hd hok).1 (.inr rfl) hr
        · cases h
      · cases h
    · cases h
  · cases h

/-! ### tables -/
def noCalls : CT := fun _ _ _ _ => none
theorem noCalls_ok (P : Program) : CTOk P noCalls := fun _ _ _ _ _ _ _ h => by cases h
def orElse (a b : CT) : CT := fun g args n σ => match a g args n σ with
  | some r => some r
  | none => b g args n σ
theorem orElse_ok {P : Program} {a b : CT} (ha : CTOk P a) (hb : CTOk P b) : CTOk P (orElse a b) := by
  intro g args n σ r n' σ' h
  unfold orElse at h
  split at h
  · rename_i hr; cases h; exact ha _ _ _ _ _ _ _ hr
  · exact hb _ _ _ _ _ _ _ h
/-- functions that make nothing that stays. -/
def pure1 (t : FuncId → List V → Option V) : CT := fun g args n σ => match t g args with
  | some r => some ((r, [], []), true)
  | none => none
theorem pure1_ok {P : Program} {t : FuncId → List V → Option V} (h : ∀ g args r, t g args = some r → ∀ n, Spec P g args n no r n no) : CTOk P (pure1 t) := by
  intro g args n σ r news muts e
  unfold pure1 at e
  split at e
  · rename_i r' hr
    cases e
    rw [ext_nil]
    exact (h g args r hr n).any σ
  · cases e

/-- the same, where a condition goes with the result. -/
def pure2 (t : FuncId → List V → Option (V × Bool)) : CT := fun g args n σ => match t g args with
  | some (r, c) => some ((r, [], []), c)
  | none => none
theorem pure2_ok {P : Program} {t : FuncId → List V → Option (V × Bool)} (h : ∀ g args r, t g args = some (r, true) → ∀ n, Spec P g args n no r n no) : CTOk P (pure2 t) := by
  intro g args n σ r news muts e
  unfold pure2 at e
  split at e
  · rename_i r' c hr
    cases e
    rw [ext_nil]
    exact (h g args r hr n).any σ
  · cases e

/-- the program itself, where neither arguments nor results bear names: so many calls deep, so many steps a function. -/
def run (P : Program) (s : Nat) : Nat → FuncId → List V → Option V
  | 0, _, _ => none
  | k + 1, g, args => if args.all V.bare then match P.funcs[g]? with
    | some fn => if fn.name == "runtime.NumGoroutine" then none else match dfun P (pure1 (run P s k)) [] noLoops s fn args 0 no with
      | some ((r, _, _), _, true) => if r.bare then some r else none
      | _ => none
    | none => none
    else none
theorem run_ok {P : Program} (hm : P.follows .mixedOrders = true) (s : Nat) : ∀ k g args r, run P s k g args = some r → ∀ n, Spec P g args n no r n no
  | 0, _, _, _, h, _ => by cases h
  | k + 1, g, args, r, h, n => by
    unfold run at h
    split at h
    · rename_i ha
      split at h
      · rename_i fn hf
        split at h
        · cases h
        · rename_i hn
          split at h
          · rename_i r' n' σ' i hd
            split at h
            · rename_i hr
              cases h
              exact (dfun_ok hm (pure1_ok (run_ok hm s k)) (noLoops_ok _ _ _) hf (by simpa using hn) hd rfl).pure ha hr n
            · cases h
          · cases h
      · cases h
    · cases h

/-- what is told of a run: the result; whether all answers are right. -/
def res (x : Option ((V × Nat × Sto) × Nat × Bool)) : Option (V × Bool) := x.map fun y => (y.1.1, y.2.2)
theorem res_some {x : Option ((V × Nat × Sto) × Nat × Bool)} {v : V} {b : Bool} (h : res x = some (v, b)) : ∃ n σ i, x = some ((v, n, σ), i, b) := by
  unfold res at h
  obtain ⟨⟨⟨a, n, σ⟩, i, c⟩, rfl, h2⟩ := Option.map_eq_some_iff.1 h
  cases h2
  exact ⟨n, σ, i, rfl⟩

end Go.Proofs.Ytnklnboglijcbaa.D
