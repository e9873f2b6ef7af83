/- Regions whose order is drawn, reckoned. Plain Lean over the kit's model; no program. -/
import Derived.Test.YtmckhoaekbeijaaGreatFB
import Derived.Defers
import GoSem.ClaimWide
namespace Go.Proofs.YtmckhoaekbeijaaGreat.E
open Go Go.RowKit
set_option linter.unusedVariables false

/-! ### names, and what they reach -/
def V.ids0 : V → List Nat
  | .ptr id _ _ _ => [id]
  | .sl id _ _ _ _ _ => [id]
  | _ => []
def V.ids1 : V → List Nat
  | .fn _ a b => a.flatMap V.ids0 ++ b.flatMap V.ids0
  | v => v.ids0
def V.ids2 : V → List Nat
  | .agg cs => cs.flatMap V.ids1
  | v => v.ids1
def V.ids : V → List Nat
  | .tup vs => vs.flatMap V.ids2
  | v => v.ids2
def Ob.ids (o : Ob) : List Nat := match o.row with
  | .any l => l.flatMap V.ids1
  | _ => []
def reach (σ : Sto) : Nat → List Nat → List Nat → List Nat
  | 0, _, acc => acc
  | _ + 1, [], acc => acc
  | k + 1, id :: todo, acc =>
    if acc.contains id then reach σ k todo acc
    else match σ id with
      | some ob => reach σ k (ob.ids ++ todo) (id :: acc)
      | none => reach σ k todo acc
def foot (o : Oper) (fr : Fm) (σ : Sto) : List Nat := (reach σ 1000 (o.op.operands.toList.flatMap fun x => (opd fr x).ids) []).filter fun id => (σ id).isSome
def restr (d : List Nat) (σ : Sto) : Sto := fun id => if d.contains id then σ id else none

def nums (n : Nat) : Nat → List Nat
  | 0 => []
  | k + 1 => n :: nums (n + 1) k
theorem nums_mem : ∀ (k n id : Nat), id ∈ nums n k ↔ n ≤ id ∧ id < n + k
  | 0, n, id => by simp [nums]
  | k + 1, n, id => by simp [nums, nums_mem k (n + 1) id]; omega

def domOf (p : Bool) (d : List Nat) : List Nat := if p then [] else d
theorem domOf_true (d : List Nat) : domOf true d = [] := rfl
theorem domOf_false (d : List Nat) : domOf false d = d := rfl

structure Rec where
  fr : Fm
  n : Nat
  σ : Sto
  v : V
  act : Bool
  pur : Bool
  news : List (Option Ob)
  muts : List (Nat × Option Ob)
  dom : List Nat

def Rec.wr (r : Rec) : List Nat := r.muts.map (·.1) ++ nums r.n r.news.length
def Rec.inr (r : Rec) (id : Nat) : Bool := r.dom.contains id || (Nat.ble r.n id && Nat.blt id (r.n + r.news.length))

/-- what is asked of an operation's objects. -/
def recChk (o : Oper) (r : Rec) : Bool :=
  r.dom.all (fun id => (r.σ id).isSome && Nat.blt id r.n) &&
  o.op.operands.toList.all (fun x => (opd r.fr x).inn r.dom.contains) &&
  r.dom.all (fun id => match r.σ id with | some ob => ob.row.inn r.dom.contains | none => true) &&
  r.muts.all (fun x => r.dom.contains x.1) &&
  r.wr.all (fun id => match ext r.n r.σ r.news r.muts id with | some ob => ob.row.inn r.inr | none => true) &&
  r.v.inn r.inr

/-- is what is loaded appended to, and stored? -/
def isApp (d : Tmp) : Op → Bool
  | .call { callee := .builtin .append, args := ⟨.tmp t :: _⟩, argTypes := _ } => Nat.beq t d
  | _ => false
def isStore : Op → Bool
  | .store .. => true
  | _ => false
def movesOut (ops : Array Oper) (o : Oper) : Bool := match o.dst with
  | some d => ops.toList.any (fun p => isApp d p.op) && ops.toList.any (fun p => isStore p.op)
  | none => false
/-- its cell is no more known. -/
def loadedOf (o : Oper) (fr : Fm) (σ : Sto) : V → Option (Nat × Ob)
  | .sl _ _ _ _ _ true => match o.op with
    | .load _ x => match opd fr x with
      | .ptr id (.lit (.ofNat 0)) _ c => match σ id with
        | some ⟨.any cs, rw, e⟩ => some (id, ⟨.any (cs.set c .und), rw, e⟩)
        | _ => none
      | _ => none
    | _ => none
  | _ => none
def moved (ops : Array Oper) (o : Oper) (fr : Fm) (σ : Sto) (r : OpR) : OpR := match r with
  | (v, [], [], false, bs, kn) => if movesOut ops o then match loadedOf o fr σ v with
      | some x => (v, [], [(x.1, some x.2)], false, bs, kn)
      | none => r
    else r
  | r => r
theorem F2.setUnd {β : Bt} : ∀ {cs : List V} {xs : List Value} (c : Nat), F2 (R1 β) cs xs → F2 (R1 β) (cs.set c .und) xs
  | [], [], _, _ => by simp [F2]
  | _ :: _, x :: _, 0, h => ⟨R1.one h.1, h.2⟩
  | _ :: _, _ :: _, c + 1, h => ⟨h.1, F2.setUnd c h.2⟩
  | [], _ :: _, _, h => h.elim
  | _ :: _, [], _, h => h.elim
theorem TOp.weakEnd {P : Program} {ρ : Env} {o : Oper} {fr : Fm} {n n' : Nat} {v : V} {σ σ' σ'' : Sto} (h : TOp P ρ o fr n σ v n' σ') (hw : ∀ id o', σ'' id = some o' → ∃ o, σ' id = some o ∧ o.rw = o'.rw ∧ o.e = o'.e ∧ ∀ β xs, RH β o.row xs → RH β o'.row xs) : TOp P ρ o fr n σ v n' σ'' := by
  intro β a w K Q hS ho hk
  refine h β a w K Q hS ho fun x β' w' hR hS' st => hk x β' w' hR ?_ ?_
  · have hwr : ∀ b, Wr β' σ'' b → Wr β' σ' b := fun b ⟨id, o, p, h1, h2, h3, h4⟩ => by
      obtain ⟨o1, k1, k2, _⟩ := hw id o h1
      exact ⟨id, o1, p, k1, k2.trans h2, h3, h4⟩
    refine ⟨⟨hS'.env, fun id o e => ?_, fun id o id' o' p p' e hr e' hne hp hp' => ?_, fun b cs e => ⟨(hS'.fzs b cs e).1, fun hc => (hS'.fzs b cs e).2.1 (hwr b hc), (hS'.fzs b cs e).2.2⟩, fun b c e => ⟨(hS'.kvs b c e).1, fun hc => (hS'.kvs b c e).2 (hwr b hc)⟩⟩, hS'.fresh⟩
    · obtain ⟨o1, k1, k2, k3, k4⟩ := hw id o e
      obtain ⟨q, l1, l2⟩ := hS'.ob id o1 k1
      refine ⟨q, l1, ?_⟩
      cases q with
      | none => exact k4 β' [] l2
      | some p =>
        obtain ⟨m1, cur, xs, rest, fz, m2, m3, m4, m5, m6, m7⟩ := l2
        exact ⟨m1, cur, xs, rest, fz, by rw [← k3]; exact m2, m3, m4, k4 β' xs m5, fun hr => m6 (k2.trans hr), fun hr => m7 (k2.trans hr)⟩
    · obtain ⟨o1, k1, k2, _⟩ := hw id o e
      obtain ⟨o2, l1, _⟩ := hw id' o' e'
      exact hS'.sep id o1 id' o2 p p' k1 (k2.trans hr) l1 hne hp hp'
  · exact ⟨st.le, st.os, st.tape, st.output, st.size, st.fr, fun b ⟨id, o, p, h1, h2, h3, h4⟩ => by
      obtain ⟨o1, k1, k2, _⟩ := hw id o h1
      exact st.own b ⟨id, o1, p, k1, k2.trans h2, h3, h4⟩, st.fzn, st.kvn⟩
theorem moved_ok {P : Program} {ρ : Env} {ops : Array Oper} {o : Oper} {fr : Fm} {n : Nat} {σ τ : Sto} {r : OpR} (hτ : ∀ id o, σ id = some o → τ id = some o) (h : TOp P ρ o fr n τ r.1 (n + r.2.1.length) (ext n τ r.2.1 r.2.2.1)) :
    TOp P ρ o fr n τ (moved ops o fr σ r).1 (n + (moved ops o fr σ r).2.1.length) (ext n τ (moved ops o fr σ r).2.1 (moved ops o fr σ r).2.2.1) := by
  unfold moved
  split
  · rename_i v bs kn
    split
    · split
      · rename_i x hx
        refine TOp.weakEnd h fun id o' e => ?_
        simp only at e ⊢
        unfold loadedOf at hx
        split at hx
        · split at hx
          · split at hx
            · rename_i id0 z c hp
              split at hx
              · rename_i cs rw ty hσ
                cases hx
                have e0 : ∀ id, ext n τ [] [] id = τ id := fun id => by rw [ext_nil]
                have e1 : ext n τ [] [(id0, some ⟨.any (cs.set c .und), rw, ty⟩)] id = if id = id0 then some ⟨.any (cs.set c .und), rw, ty⟩ else τ id := by
                  unfold ext
                  simp only [List.length_nil, Nat.add_zero]
                  rw [if_neg (by simp [Nat.blt]; omega)]
                  by_cases hid : id = id0
                  · subst hid; simp
                  · rw [if_neg hid]
                    have : Nat.beq id0 id = false := by
                      cases hb : Nat.beq id0 id with
                      | false => rfl
                      | true => exact (hid (Nat.eq_of_beq_eq_true hb).symm).elim
                    simp [this]
                rw [e1] at e
                by_cases hid : id = id0
                · rw [if_pos hid] at e
                  cases e
                  exact ⟨⟨.any cs, rw, ty⟩, by rw [e0, hid]; exact hτ _ _ hσ, rfl, rfl, fun β xs hx => F2.setUnd c hx⟩
                · rw [if_neg hid] at e
                  exact ⟨o', by rw [e0]; exact e, rfl, rfl, fun _ _ hx => hx⟩
              · cases hx
            · cases hx
          · cases hx
        · cases hx
      · exact h
    · exact h
  · exact h
theorem moved_keep (ops : Array Oper) (o : Oper) (fr : Fm) (σ : Sto) (r : OpR) : (moved ops o fr σ r).1 = r.1 ∧ (moved ops o fr σ r).2.2.2 = r.2.2.2 ∧ (moved ops o fr σ r).2.1 = r.2.1 ∧ (r.2.2.2.1 = true → moved ops o fr σ r = r) := by
  unfold moved
  split
  · split
    · split
      · exact ⟨rfl, rfl, rfl, fun h => by cases h⟩
      · exact ⟨rfl, rfl, rfl, fun _ => rfl⟩
    · exact ⟨rfl, rfl, rfl, fun _ => rfl⟩
  · exact ⟨rfl, rfl, rfl, fun _ => rfl⟩
/-- an operation among its own objects alone. -/
def runRec (P : Program) (ct : CT) (ops : Array Oper) (o : Oper) (s : St) (kn : Kn) (k : Rec → St → T (List Rec × St)) : T (List Rec × St) :=
  (dop P ct o s.fr s.n (restr (foot o s.fr s.σ) s.σ) kn).bind fun r0 =>
    let r := moved ops o s.fr (restr (foot o s.fr s.σ) s.σ) r0
    let c : Rec := ⟨s.fr, s.n, s.σ, r.1, true, r.2.2.2.1, r.2.1, r.2.2.1, domOf r.2.2.2.1 (foot o s.fr s.σ)⟩
    if r.2.2.2.1 || recChk o c then k c (s.next o r) else .dead
def drec (P : Program) (ct : CT) (nt : Nat) (ops : Array Oper) : List Oper → St → T (List Rec × St)
  | [], s => .leaf ([], s)
  | o :: l, s =>
    if dstOk nt o.dst then
      match guardB s.fr ops o with
      | none => .dead
      | some none => runRec P ct ops o s s.kn fun c s1 => (drec P ct nt ops l s1).bind fun q => .leaf (c :: q.1, q.2)
      | some (some (b, want)) => ask b s.kn fun t kn =>
          if t == want then runRec P ct ops o s kn fun c s1 => (drec P ct nt ops l s1).bind fun q => .leaf (c :: q.1, q.2)
          else (drec P ct nt ops l (s.skip o kn)).bind fun q => .leaf (⟨s.fr, s.n, s.σ, .tup [], false, true, [], [], []⟩ :: q.1, q.2)
    else .dead

structure RecOk (P : Program) (ρ : Env) (nt : Nat) (ops : Array Oper) (o : Oper) (r : Rec) : Prop where
  dst : ∀ t, o.dst = some t → t < nt
  wants : wants ρ r.fr ops o = some r.act
  idle : r.act = false → r.v = .tup [] ∧ r.news = [] ∧ r.muts = []
  pdoes : r.act = true → r.pur = true → POp P ρ o r.fr r.v ∧ r.news = [] ∧ r.muts = []
  nodom : (r.act = false ∨ r.pur = true) → r.dom = []
  does : r.act = true → r.pur = false → recChk o r = true ∧ TOp P ρ o r.fr r.n (restr r.dom r.σ) r.v (r.n + r.news.length) (ext r.n (restr r.dom r.σ) r.news r.muts)

inductive RecsOk (P : Program) (ρ : Env) (nt : Nat) (ops : Array Oper) : List Oper → List Rec → St → St → Prop
  | nil (s : St) : RecsOk P ρ nt ops [] [] s s
  | cons {o : Oper} {l : List Oper} {r : Rec} {rs : List Rec} {s s2 s' : St} (h1 : r.fr = s.fr) (h2 : r.n = s.n) (h3 : r.σ = s.σ) (hr : RecOk P ρ nt ops o r) (e1 : s2.fr = upd r.fr o.dst r.v) (e2 : s2.n = r.n + r.news.length) (e3 : s2.σ = ext r.n r.σ r.news r.muts)
      (h : RecsOk P ρ nt ops l rs s2 s') : RecsOk P ρ nt ops (o :: l) (r :: rs) s s'

theorem drec_ok {P : Program} {ρ : Env} {ct : CT} (hct : CTOk P ρ ct) {e nt : Nat} {ops : Array Oper} : ∀ {l : List Oper} {s s' : St} {rs : List Rec}, e ≤ s.n → knOk ρ s.kn → (drec P ct nt ops l s).pick ρ = some (rs, s') →
    knOk ρ s'.kn ∧ e ≤ s'.n ∧ (okOk ρ s'.ok → RecsOk P ρ nt ops l rs s s' ∧ okOk ρ s.ok)
  | [], s, s', rs, he, hk, h => by cases h; exact ⟨hk, he, fun hok => ⟨.nil _, hok⟩⟩
  | o :: l, s, s', rs, he, hk, h => by
    unfold drec at h
    split at h
    case isFalse => cases h
    rename_i hd
    have run : ∀ {kn : Kn}, knOk ρ kn → wants ρ s.fr ops o = some true → (runRec P ct ops o s kn fun c s1 => (drec P ct nt ops l s1).bind fun q => .leaf (c :: q.1, q.2)).pick ρ = some (rs, s') → knOk ρ s'.kn ∧ e ≤ s'.n ∧ (okOk ρ s'.ok → RecsOk P ρ nt ops (o :: l) rs s s' ∧ okOk ρ s.ok) := by
      intro kn hkn hw h
      unfold runRec at h
      obtain ⟨r0, h1, h2⟩ := T.bind_some h
      obtain ⟨k1, k2⟩ := dop_ok hct hkn h1
      have hmv := moved_ok (P := P) (ρ := ρ) (ops := ops) (o := o) (fr := s.fr) (n := s.n) (σ := restr (foot o s.fr s.σ) s.σ) (τ := restr (foot o s.fr s.σ) s.σ) (r := r0) (fun _ _ h => h)
      have hkp := moved_keep ops o s.fr (restr (foot o s.fr s.σ) s.σ) r0
      simp only at h2
      generalize moved ops o s.fr (restr (foot o s.fr s.σ) s.σ) r0 = rr at h2 hmv hkp
      obtain ⟨v, news, muts, p, bs, kn'⟩ := rr
      obtain ⟨v0, news0, muts0, p0, bs0, kn0⟩ := r0
      obtain ⟨q1, q2, q3, q4⟩ := hkp
      simp only at q1 q2 q3 q4 hmv h2 k1 k2
      cases q2
      subst q1
      subst q3
      have q4' : p = true → muts = muts0 := fun e => by have := q4 e; simp only [Prod.mk.injEq] at this; exact this.2.2.1
      split at h2
      · rename_i hchk
        obtain ⟨q, h3, h4⟩ := T.bind_some h2
        obtain ⟨rs', s2⟩ := q
        cases h4
        obtain ⟨g1, g2, g3⟩ := drec_ok hct (e := e) (by simp only [St.next]; omega) (by simpa only [St.next] using k1) h3
        refine ⟨g1, g2, fun hok => ?_⟩
        obtain ⟨t1, t2⟩ := g3 hok
        simp only [St.next] at t2
        obtain ⟨o1, o2⟩ := addOk_ok k1 t2
        obtain ⟨u1, u2⟩ := k2 o1
        refine ⟨.cons rfl rfl rfl ⟨dstOk_ok hd, hw, fun e => (by cases e), fun _ e => by simp only; rw [q4' e]; exact u2 e, fun e => ?_, fun _ e => ?_⟩ (St.next_fr _ _ _) rfl ?_ t1, o2⟩
        · rcases e with e | e
          · cases e
          · have e' : p = true := e
            subst e'; exact domOf_true (foot o s.fr s.σ)
        · have e' : p = false := e
          subst e'
          simp only [Bool.false_or] at hchk
          rw [domOf_false] at hchk ⊢
          exact ⟨hchk, hmv u1⟩
        · exact St.next_σ _ _ _
      · cases h2
    split at h
    · cases h
    · rename_i hg
      exact run hk (guardB_none hg) h
    · rename_i b want hg
      have hw := guardB_some (ρ := ρ) hg
      obtain ⟨kn1, h1, h2⟩ := ask_ok b (k := fun t kn => if t == want then runRec P ct ops o s kn fun c s1 => (drec P ct nt ops l s1).bind fun q => .leaf (c :: q.1, q.2)
          else (drec P ct nt ops l (s.skip o kn)).bind fun q => .leaf (⟨s.fr, s.n, s.σ, .tup [], false, true, [], [], []⟩ :: q.1, q.2)) hk
      rw [h2] at h
      split at h
      · rename_i ht
        exact run h1 (by rw [hw, ht]) h
      · rename_i ht
        have ht' : (b.den ρ == want) = false := by simpa using ht
        obtain ⟨q, h3, h4⟩ := T.bind_some h
        obtain ⟨rs', s2⟩ := q
        cases h4
        obtain ⟨g1, g2, g3⟩ := drec_ok hct (e := e) (s := s.skip o kn1) he h1 h3
        refine ⟨g1, g2, fun hok => ?_⟩
        obtain ⟨t1, t2⟩ := g3 hok
        exact ⟨.cons rfl rfl rfl ⟨dstOk_ok hd, by rw [hw, ht'], fun _ => ⟨rfl, rfl, rfl⟩, fun e => (by cases e), fun _ => rfl, fun e => (by cases e)⟩ (St.skip_fr _ _ _) (by simp [St.skip]) (by rw [ext_nil]; rfl) t1, t2⟩

/-! ### the table of a region -/
def lx (rs : List Rec) (s' : St) : Lx where
  fr k := match rs[k]? with | some r => r.fr | none => s'.fr
  n k := match rs[k]? with | some r => r.n | none => s'.n
  σ k := match rs[k]? with | some r => r.σ | none => s'.σ
  v k := match rs[k]? with | some r => r.v | none => .und
  act k := match rs[k]? with | some r => r.act | none => false
  pur k := match rs[k]? with | some r => r.pur | none => true
  dom k := match rs[k]? with | some r => r.dom | none => []
  wr k := match rs[k]? with | some r => r.wr | none => []

theorem lx_zero {P : Program} {ρ : Env} {nt : Nat} {ops : Array Oper} {l : List Oper} {rs : List Rec} {s s' : St} (h : RecsOk P ρ nt ops l rs s s') : (lx rs s').fr 0 = s.fr ∧ (lx rs s').n 0 = s.n ∧ (lx rs s').σ 0 = s.σ := by
  cases h with
  | nil => exact ⟨rfl, rfl, rfl⟩
  | cons h1 h2 h3 => exact ⟨h1, h2, h3⟩
theorem recs_len {P : Program} {ρ : Env} {nt : Nat} {ops : Array Oper} {l : List Oper} {rs : List Rec} {s s' : St} (h : RecsOk P ρ nt ops l rs s s') : rs.length = l.length := by
  induction h with
  | nil => rfl
  | cons _ _ _ _ _ _ _ _ ih => simp [ih]
theorem lx_at {P : Program} {ρ : Env} {nt : Nat} {ops : Array Oper} {l : List Oper} {rs : List Rec} {s s' : St} (h : RecsOk P ρ nt ops l rs s s') : ∀ (k : Nat) (o : Oper), l[k]? = some o → ∃ r, rs[k]? = some r ∧ RecOk P ρ nt ops o r ∧
    (lx rs s').fr (k + 1) = upd r.fr o.dst r.v ∧ (lx rs s').n (k + 1) = r.n + r.news.length ∧ (lx rs s').σ (k + 1) = ext r.n r.σ r.news r.muts := by
  induction h with
  | nil => intro k o h; simp at h
  | cons h1 h2 h3 hr e1 e2 e3 ht ih =>
    intro k o hk
    cases k with
    | zero =>
      simp at hk; subst hk
      obtain ⟨z1, z2, z3⟩ := lx_zero ht
      refine ⟨_, by simp, hr, ?_, ?_, ?_⟩
      · rw [← e1, ← z1]; rfl
      · rw [← e2, ← z2]; rfl
      · rw [← e3, ← z3]; rfl
    | succ k =>
      obtain ⟨r, g1, g2, g3, g4, g5⟩ := ih k o (by simpa using hk)
      exact ⟨r, by simpa using g1, g2, g3, g4, g5⟩

/-- what is asked of the edges. -/
def regChk (ops : Array Oper) (D : Lx) : Bool :=
  (List.range ops.size).all fun j => match ops[j]? with
    | none => true
    | some oj => oj.after.toList.all (fun e => !Region.binds .any e || Nat.blt e.on j) && notSel oj.op &&
      (List.range j).all fun i => match ops[i]? with
        | none => true
        | some oi => !hang ops D i j oi oj || isBef ops ops.size i j

theorem ext_wr {r : Rec} {id : Nat} (h : r.wr.contains id = false) (σ : Sto) : ext r.n σ r.news r.muts id = σ id := by
  have h' : id ∉ r.wr := by simpa using h
  simp only [Rec.wr, List.mem_append, nums_mem, not_or, List.mem_map] at h'
  unfold ext
  rw [if_neg (by simp [Nat.blt]; omega)]
  cases hf : r.muts.find? (fun x => Nat.beq x.1 id) with
  | none => rfl
  | some x =>
    have h1 := List.find?_some hf
    have h2 := List.mem_of_find?_eq_some hf
    exact (h'.1 ⟨x, h2, by simpa using h1⟩).elim
theorem ext_in {r : Rec} {id : Nat} (h : r.wr.contains id = true) (σ σ' : Sto) : ext r.n σ r.news r.muts id = ext r.n σ' r.news r.muts id := by
  have h' : id ∈ r.wr := by simpa using h
  simp only [Rec.wr, List.mem_append, nums_mem, List.mem_map] at h'
  unfold ext
  split
  · rfl
  · rename_i hc
    cases hf : r.muts.find? (fun x => Nat.beq x.1 id) with
    | some x => rfl
    | none =>
      exfalso
      rcases h' with ⟨x, hx, e⟩ | h'
      · have := List.find?_eq_none.1 hf x hx
        simp [e] at this
      · apply hc; simp [Nat.blt]; omega

theorem lx_ok {P : Program} {ρ : Env} {nt : Nat} {ops : Array Oper} {rs : List Rec} {s s' : St} (h : RecsOk P ρ nt ops ops.toList rs s s') (hc : regChk ops (lx rs s') = true) : LxOk P ρ nt ops (lx rs s') := by
  have hat : ∀ (k : Nat) (o : Oper), ops[k]? = some o → ∃ r, rs[k]? = some r ∧ RecOk P ρ nt ops o r ∧ (lx rs s').fr (k + 1) = upd r.fr o.dst r.v ∧ (lx rs s').n (k + 1) = r.n + r.news.length ∧ (lx rs s').σ (k + 1) = ext r.n r.σ r.news r.muts :=
    fun k o ho => lx_at h k o (by simpa using ho)
  have hsz : ∀ i, i < ops.size → ∃ o, ops[i]? = some o := fun i hi => ⟨ops[i], by simp [hi]⟩
  have hlt : ∀ (i : Nat) (o : Oper), ops[i]? = some o → i < ops.size := fun i o ho => by rw [Array.getElem?_eq_some_iff] at ho; exact ho.1
  simp only [regChk, List.all_eq_true, List.mem_range] at hc
  have hj : ∀ (j : Nat) (oj : Oper), ops[j]? = some oj → (∀ e ∈ oj.after, Region.binds .any e = true → e.on < j) ∧ notSel oj.op = true ∧ ∀ (i : Nat) (oi : Oper), i < j → ops[i]? = some oi → hang ops (lx rs s') i j oi oj = true → isBef ops ops.size i j = true := by
    intro j oj ho
    have := hc j (hlt j oj ho)
    rw [ho] at this
    simp only [Bool.and_eq_true, List.all_eq_true, List.mem_range] at this
    refine ⟨fun e he hb => ?_, this.1.2, fun i oi hi hoi hh => ?_⟩
    · have h1 := this.1.1 e (by simpa using he)
      rw [hb] at h1
      have h2 : Nat.blt e.on j = true := by simpa only [Bool.not_true, Bool.false_or] using h1
      exact Nat.le_of_ble_eq_true h2
    · have h1 := this.2 i hi
      rw [hoi] at h1
      simp only [Bool.or_eq_true, Bool.not_eq_true'] at h1
      rcases h1 with h1 | h1
      · rw [hh] at h1; cases h1
      · exact h1
  -- what the check of an operation's objects says
  have chk : ∀ {o : Oper} {r : Rec}, recChk o r = true → (∀ id, r.dom.contains id = true → (r.σ id).isSome = true ∧ id < r.n) ∧ (∀ x ∈ o.op.operands, (opd r.fr x).inn r.dom.contains = true) ∧ (∀ id ob, r.dom.contains id = true → r.σ id = some ob → ob.row.inn r.dom.contains = true) ∧
      (∀ x ∈ r.muts, r.dom.contains x.1 = true) ∧ (∀ id ob, r.wr.contains id = true → ext r.n r.σ r.news r.muts id = some ob → ob.row.inn r.inr = true) ∧ r.v.inn r.inr = true := by
    intro o r hr
    simp only [recChk, Bool.and_eq_true, List.all_eq_true] at hr
    obtain ⟨⟨⟨⟨⟨c1, c2⟩, c3⟩, c4⟩, c5⟩, c6⟩ := hr
    refine ⟨fun id hid => ?_, fun x hx => c2 x (by simpa using hx), fun id ob hid e => ?_, c4, fun id ob hid e => ?_, c6⟩
    · have := c1 id (by simpa using hid)
      exact ⟨this.1, Nat.le_of_ble_eq_true this.2⟩
    · have := c3 id (by simpa using hid)
      rw [e] at this
      exact this
    · have := c5 id (by simpa using hid)
      rw [e] at this
      exact this
  have quiet : ∀ {o : Oper} {r : Rec}, RecOk P ρ nt ops o r → (r.act = false ∨ r.pur = true) → r.dom = [] ∧ r.wr = [] ∧ r.news = [] := by
    intro o r hr hq
    refine ⟨hr.nodom hq, ?_⟩
    cases ha : r.act with
    | false => obtain ⟨_, a, b⟩ := hr.idle ha; exact ⟨by simp [Rec.wr, a, b, nums], a⟩
    | true =>
      rcases hq with hq | hq
      · rw [ha] at hq; cases hq
      · obtain ⟨_, a, b⟩ := hr.pdoes ha hq; exact ⟨by simp [Rec.wr, a, b, nums], a⟩
  have loud : ∀ {o : Oper} {r : Rec}, RecOk P ρ nt ops o r → (r.dom ≠ [] ∨ r.wr ≠ [] ∨ r.news ≠ []) → r.act = true ∧ r.pur = false := by
    intro o r hr hne
    cases ha : r.act with
    | false => obtain ⟨a, b, c⟩ := quiet hr (.inl ha); rcases hne with h | h | h <;> contradiction
    | true => cases hp : r.pur with
      | true => obtain ⟨a, b, c⟩ := quiet hr (.inr hp); rcases hne with h | h | h <;> contradiction
      | false => exact ⟨rfl, rfl⟩
  have ne_of : ∀ {l : List Nat} {id : Nat}, l.contains id = true → l ≠ [] := by rintro l id h rfl; simp at h
  constructor
  · exact fun i o ho => (hj i o ho).1
  · intro i o ho cs b e; have := (hj i o ho).2.1; rw [e] at this; cases this
  · exact fun i j oi oj hij hoi hoj hh => (hj j oj hoj).2.2 i oi hij hoi hh
  · intro i o ho; obtain ⟨r, g1, g2, _⟩ := hat i o ho; exact g2.dst
  · intro i o ho; obtain ⟨r, g1, g2, _⟩ := hat i o ho; simp only [lx, g1]; exact g2.wants
  · intro i o ho; obtain ⟨r, g1, g2, g3, _⟩ := hat i o ho; rw [g3]; simp only [lx, g1]
  · intro i hi ha
    obtain ⟨o, ho⟩ := hsz i hi
    obtain ⟨r, g1, g2, g3, g4, g5⟩ := hat i o ho
    rw [g4]
    simp only [lx, g1] at ha ⊢
    obtain ⟨a, b, c⟩ := g2.idle ha
    exact ⟨a, by simp [b], by simp [Rec.wr, b, c, nums]⟩
  · intro i hi
    obtain ⟨o, ho⟩ := hsz i hi
    obtain ⟨r, g1, g2, g3, g4, g5⟩ := hat i o ho
    rw [g4]; simp only [lx, g1]; omega
  · intro i hi id hw
    obtain ⟨o, ho⟩ := hsz i hi
    obtain ⟨r, g1, g2, g3, g4, g5⟩ := hat i o ho
    rw [g5]; simp only [lx, g1] at hw ⊢
    exact ext_wr hw _
  · intro i hi id hd
    obtain ⟨o, ho⟩ := hsz i hi
    obtain ⟨r, g1, g2, g3, g4, g5⟩ := hat i o ho
    simp only [lx, g1] at hd ⊢
    obtain ⟨a, b⟩ := loud g2 (.inl (ne_of hd))
    exact (chk (g2.does a b).1).1 id hd
  · intro i hi id hw
    obtain ⟨o, ho⟩ := hsz i hi
    obtain ⟨r, g1, g2, g3, g4, g5⟩ := hat i o ho
    rw [g4]
    simp only [lx, g1] at hw ⊢
    obtain ⟨a, b⟩ := loud g2 (.inr (.inl (ne_of hw)))
    have h' : id ∈ r.wr := by simpa using hw
    simp only [Rec.wr, List.mem_append, nums_mem, List.mem_map] at h'
    rcases h' with ⟨x, hx, rfl⟩ | h'
    · exact .inl ((chk (g2.does a b).1).2.2.2.1 x hx)
    · exact .inr h'
  · intro i hi id h1 h2
    obtain ⟨o, ho⟩ := hsz i hi
    obtain ⟨r, g1, g2, g3, g4, g5⟩ := hat i o ho
    rw [g4] at h2
    simp only [lx, g1] at h1 h2 ⊢
    have : id ∈ r.wr := by simp only [Rec.wr, List.mem_append, nums_mem]; exact .inr ⟨h1, h2⟩
    simpa using this
  · intro i o ho ha hp x hx
    obtain ⟨r, g1, g2, g3, g4, g5⟩ := hat i o ho
    simp only [lx, g1] at ha hp ⊢
    exact (chk (g2.does ha hp).1).2.1 x hx
  · intro i hi id ob hd e
    obtain ⟨o, ho⟩ := hsz i hi
    obtain ⟨r, g1, g2, g3, g4, g5⟩ := hat i o ho
    simp only [lx, g1] at hd e ⊢
    obtain ⟨a, b⟩ := loud g2 (.inl (ne_of hd))
    exact (chk (g2.does a b).1).2.2.1 id ob hd e
  · intro i hi id ob hw e
    obtain ⟨o, ho⟩ := hsz i hi
    obtain ⟨r, g1, g2, g3, g4, g5⟩ := hat i o ho
    rw [g5] at e
    rw [g4]
    simp only [lx, g1] at hw e ⊢
    obtain ⟨a, b⟩ := loud g2 (.inr (.inl (ne_of hw)))
    exact (chk (g2.does a b).1).2.2.2.2.1 id ob hw e
  · intro i hi ha hp
    obtain ⟨o, ho⟩ := hsz i hi
    obtain ⟨r, g1, g2, g3, g4, g5⟩ := hat i o ho
    rw [g4]
    simp only [lx, g1] at ha hp ⊢
    exact (chk (g2.does ha hp).1).2.2.2.2.2
  · intro i o ho ha hp
    obtain ⟨r, g1, g2, g3, g4, g5⟩ := hat i o ho
    rw [g4]
    simp only [lx, g1] at ha hp ⊢
    obtain ⟨a, b, c⟩ := g2.pdoes ha hp
    exact ⟨a, by simp [b], by simp [Rec.wr, b, c, nums]⟩
  · intro i o ho ha hp
    obtain ⟨r, g1, g2, g3, g4, g5⟩ := hat i o ho
    rw [g4, g5]
    simp only [lx, g1] at ha hp ⊢
    have hT := (g2.does ha hp).2
    have hfun : (fun id => if r.dom.contains id || r.wr.contains id then ext r.n r.σ r.news r.muts id else none) = ext r.n (restr r.dom r.σ) r.news r.muts := by
      funext id
      cases hw : r.wr.contains id with
      | true => simp only [Bool.or_true, if_true]; exact ext_in hw _ _
      | false =>
        rw [ext_wr hw, ext_wr hw]
        simp only [Bool.or_false, restr]
    rw [hfun]
    exact hT

end Go.Proofs.YtmckhoaekbeijaaGreat.E
/- Letters replaced; values alike in writing. Plain Lean over the kit's model; no program. -/
namespace Go.Proofs.YtmckhoaekbeijaaGreat.E
open Go Go.RowKit
set_option linter.unusedVariables false

/-- what is put for letters. -/
structure Sub where
  e : List E
  l : List L
  ll : List LL
  b : List B
  i : E
/-- below a binder. -/
def Sub.under (s : Sub) : Sub := { s with i := .ix }
/-- of written-out numbers: reckoned at once. -/
def mkApp (f : Nat) (a : L) (as : LL) : L := match as with
  | .nil => match litsO a with
    | some l => litL (J f l [])
    | none => .app f a .nil
  | as => .app f a as
theorem mkApp_den (ρ : Env) (f : Nat) (a : L) (as : LL) : (mkApp f a as).den ρ = J f (a.den ρ) (as.den ρ) := by
  unfold mkApp
  split
  · split
    · rename_i l hl; rw [litL_den, litsO_ok ρ hl]; rfl
    · rfl
  · rfl
def mkJoin : LL → L
  | .nil => .nil
  | .cons l ls => mkCat l (mkJoin ls)
  | .cat a b => mkCat (mkJoin a) (mkJoin b)
  | ls => .join ls
theorem mkJoin_den (ρ : Env) : ∀ a : LL, (mkJoin a).den ρ = (a.den ρ).flatten
  | .nil => rfl
  | .cons l ls => by simp [mkJoin, mkCat_den, LL.den, mkJoin_den ρ ls]
  | .cat a b => by simp [mkJoin, mkCat_den, LL.den, mkJoin_den ρ a, mkJoin_den ρ b]
  | .var _ | .app .. | .ite .. | .set .. | .cut .. | .chunk .. => rfl
def mkIteL : B → L → L → L
  | .lit true, x, _ => x
  | .lit false, _, y => y
  | b, x, y => bif x.same y then x else .ite b x y
theorem mkIteL_den (ρ : Env) (b : B) (x y : L) : (mkIteL b x y).den ρ = bif b.den ρ then x.den ρ else y.den ρ := by
  unfold mkIteL
  split
  · rfl
  · rfl
  · cases h : x.same y with
    | true => rw [L.same_ok h]; cases b.den ρ <;> rfl
    | false => rfl
def mkCutLL (l : LL) (lo hi : E) : LL := bif lo.same (.lit 0) && hi.same (mkCnt l) then l else .cut l lo hi
theorem mkCutLL_den (ρ : Env) (l : LL) (lo hi : E) : (mkCutLL l lo hi).den ρ = ((l.den ρ).take (hi.den ρ).toNat).drop (lo.den ρ).toNat := by
  unfold mkCutLL
  cases hw : lo.same (.lit 0) && hi.same (mkCnt l) with
  | true =>
    simp only [Bool.and_eq_true] at hw
    rw [cond_true, E.same_ok hw.1, E.same_ok hw.2, mkCnt_den]
    simp [E.den]
  | false => rfl
def mkIteLL : B → LL → LL → LL
  | .lit true, x, _ => x
  | .lit false, _, y => y
  | b, x, y => bif x.same y then x else .ite b x y
theorem mkIteLL_den (ρ : Env) (b : B) (x y : LL) : (mkIteLL b x y).den ρ = bif b.den ρ then x.den ρ else y.den ρ := by
  unfold mkIteLL
  split
  · rfl
  · rfl
  · cases h : x.same y with
    | true => rw [LL.same_ok h]; cases b.den ρ <;> rfl
    | false => rfl
theorem findI_false (p : Nat → Bool) : ∀ (k j : Nat), (∀ i, j ≤ i → i < j + k → p i = false) → findI p k j = j + k
  | 0, j, _ => rfl
  | k + 1, j, h => by
    unfold findI
    rw [h j (Nat.le_refl _) (by omega), cond_false, findI_false p k (j + 1) fun i h1 h2 => h i (by omega) (by omega)]
    omega
mutual
def E.sub (a : E) (s : Sub) : E := match a with
  | .lit n => .lit n
  | .var i => s.e.getD i (.var i)
  | .ix => s.i
  | .bin o k a b => mkBin o k (a.sub s) (b.sub s)
  | .un o k a => mkUn o k (a.sub s)
  | .conv k a => mkConv k (a.sub s)
  | .get l i => mkGet (l.sub' s) (i.sub s)
  | .len l => mkLen (l.sub' s)
  | .cnt l => mkCnt (l.sub s)
  | .ofB b => mkOfB (b.sub s)
  | .ite b u v => mkIte (b.sub s) (u.sub s) (v.sub s)
  | .find n p => .find (n.sub s) (p.sub s.under)
termination_by structural a
def L.sub' (a : L) (s : Sub) : L := match a with
  | .nil => .nil
  | .cons e l => .cons (e.sub s) (l.sub' s)
  | .var i => s.l.getD i (.var i)
  | .at l i => mkAt (l.sub s) (i.sub s)
  | .cat a b => mkCat (a.sub' s) (b.sub' s)
  | .cut l lo hi => mkCut (l.sub' s) (lo.sub s) (hi.sub s)
  | .sub l off n => subN (l.sub' s) off n
  | .set l i u => .set (l.sub' s) (i.sub s) (u.sub s)
  | .rep n u => .rep (n.sub s) (u.sub s)
  | .byt l => mkByt (l.sub' s)
  | .app f a as => mkApp f (a.sub' s) (as.sub s)
  | .ite b u v => mkIteL (b.sub s) (u.sub' s) (v.sub' s)
  | .join ls => mkJoin (ls.sub s)
termination_by structural a
def LL.sub (a : LL) (s : Sub) : LL := match a with
  | .nil => .nil
  | .cons l ls => .cons (l.sub' s) (ls.sub s)
  | .var i => s.ll.getD i (.var i)
  | .cat a b => mkCatLL (a.sub s) (b.sub s)
  | .app f a as => .app f (a.sub' s) (as.sub s)
  | .ite b u v => mkIteLL (b.sub s) (u.sub s) (v.sub s)
  | .set l i u => .set (l.sub s) (i.sub s) (u.sub' s)
  | .cut l lo hi => mkCutLL (l.sub s) (lo.sub s) (hi.sub s)
  | .chunk k l => .chunk k (l.sub' s)
termination_by structural a
def B.sub (a : B) (s : Sub) : B := match a with
  | .lit b => .lit b
  | .var i => s.b.getD i (.var i)
  | .lt a b => mkLt (a.sub s) (b.sub s)
  | .eq a b => mkEq (a.sub s) (b.sub s)
  | .leq a b => mkLeq (a.sub' s) (b.sub' s)
  | .seq a b => mkSeq (a.sub' s) (b.sub' s)
  | .not a => mkNot (a.sub s)
  | .and a b => mkAnd (a.sub s) (b.sub s)
termination_by structural a
end
def Env.sub (ρ : Env) (s : Sub) : Env := ⟨fun i => (s.e.getD i (.var i)).den ρ, fun i => (s.l.getD i (.var i)).den ρ, fun i => (s.ll.getD i (.var i)).den ρ, fun i => (s.b.getD i (.var i)).den ρ, s.i.den ρ⟩
/-- the index letter does not stand in what is put. -/
def Sub.nix (s : Sub) : Prop := ∀ (ρ : Env) (i : Int), (ρ.at i).sub s.under = (ρ.sub s).at i
theorem Sub.nix.under {s : Sub} (h : s.nix) : s.under.nix := fun ρ i => (h ρ i).trans rfl
mutual
theorem E.sub_den {s : Sub} (hs : s.nix) (ρ : Env) : ∀ a : E, (a.sub s).den ρ = a.den (ρ.sub s)
  | .lit _ | .var _ | .ix => by simp [E.sub, E.den, Env.sub]
  | .bin _ _ a b => by simp [E.sub, E.den, mkBin_den, E.sub_den hs ρ a, E.sub_den hs ρ b]
  | .un _ _ a | .conv _ a => by simp [E.sub, E.den, mkUn_den, mkConv_den, E.sub_den hs ρ a]
  | .get l i => by simp [E.sub, E.den, mkGet_den, L.sub_den hs ρ l, E.sub_den hs ρ i]
  | .len l => by simp [E.sub, E.den, mkLen_den, L.sub_den hs ρ l]
  | .cnt l => by simp [E.sub, E.den, mkCnt_den, LL.sub_den hs ρ l]
  | .ofB b => by simp [E.sub, E.den, mkOfB_den, B.sub_den hs ρ b]
  | .ite b u v => by simp [E.sub, E.den, mkIte_den, B.sub_den hs ρ b, E.sub_den hs ρ u, E.sub_den hs ρ v]
  | .find n p => by
    simp only [E.sub, E.den, E.sub_den hs ρ n]
    have : (fun i : Nat => (p.sub s.under).den (ρ.at i)) = fun i : Nat => p.den ((ρ.sub s).at i) := by
      funext i; rw [B.sub_den hs.under (ρ.at i) p, hs]
    rw [this]
theorem L.sub_den {s : Sub} (hs : s.nix) (ρ : Env) : ∀ a : L, (a.sub' s).den ρ = a.den (ρ.sub s)
  | .nil | .var _ => by simp [L.sub', L.den, Env.sub]
  | .cons e l => by simp [L.sub', L.den, E.sub_den hs ρ e, L.sub_den hs ρ l]
  | .at l i => by simp [L.sub', L.den, mkAt_den, LL.sub_den hs ρ l, E.sub_den hs ρ i]
  | .cat a b => by simp [L.sub', L.den, mkCat_den, L.sub_den hs ρ a, L.sub_den hs ρ b]
  | .cut l lo hi => by simp [L.sub', L.den, mkCut_den, L.sub_den hs ρ l, E.sub_den hs ρ lo, E.sub_den hs ρ hi]
  | .sub l _ _ => by simp [L.sub', L.den, subN_den, L.sub_den hs ρ l]
  | .set l i u => by simp [L.sub', L.den, L.sub_den hs ρ l, E.sub_den hs ρ i, E.sub_den hs ρ u]
  | .rep n u => by simp [L.sub', L.den, E.sub_den hs ρ n, E.sub_den hs ρ u]
  | .byt l => by simp [L.sub', L.den, mkByt_den, L.sub_den hs ρ l]
  | .app _ a as => by simp [L.sub', L.den, mkApp_den, L.sub_den hs ρ a, LL.sub_den hs ρ as]
  | .ite b u v => by simp [L.sub', L.den, mkIteL_den, B.sub_den hs ρ b, L.sub_den hs ρ u, L.sub_den hs ρ v]
  | .join ls => by simp [L.sub', L.den, mkJoin_den, LL.sub_den hs ρ ls]
theorem LL.sub_den {s : Sub} (hs : s.nix) (ρ : Env) : ∀ a : LL, (a.sub s).den ρ = a.den (ρ.sub s)
  | .nil | .var _ => by simp [LL.sub, LL.den, Env.sub]
  | .cons l ls => by simp [LL.sub, LL.den, L.sub_den hs ρ l, LL.sub_den hs ρ ls]
  | .cat a b => by simp [LL.sub, LL.den, mkCatLL_den, LL.sub_den hs ρ a, LL.sub_den hs ρ b]
  | .app _ a as => by simp [LL.sub, LL.den, L.sub_den hs ρ a, LL.sub_den hs ρ as]
  | .ite b u v => by simp [LL.sub, LL.den, mkIteLL_den, B.sub_den hs ρ b, LL.sub_den hs ρ u, LL.sub_den hs ρ v]
  | .set l i u => by simp [LL.sub, LL.den, LL.sub_den hs ρ l, E.sub_den hs ρ i, L.sub_den hs ρ u]
  | .cut l lo hi => by simp [LL.sub, LL.den, mkCutLL_den, LL.sub_den hs ρ l, E.sub_den hs ρ lo, E.sub_den hs ρ hi]
  | .chunk k l => by simp [LL.sub, LL.den, L.sub_den hs ρ l]
theorem B.sub_den {s : Sub} (hs : s.nix) (ρ : Env) : ∀ a : B, (a.sub s).den ρ = a.den (ρ.sub s)
  | .lit _ | .var _ => by simp [B.sub, B.den, Env.sub]
  | .lt a b | .eq a b => by simp [B.sub, B.den, mkLt_den, mkEq_den, E.sub_den hs ρ a, E.sub_den hs ρ b]
  | .leq a b | .seq a b => by simp [B.sub, B.den, mkLeq_den, mkSeq_den, L.sub_den hs ρ a, L.sub_den hs ρ b]
  | .not a => by simp [B.sub, B.den, mkNot_den, B.sub_den hs ρ a]
  | .and a b => by simp [B.sub, B.den, mkAnd_den, B.sub_den hs ρ a, B.sub_den hs ρ b]
end

def Sub.noix (s : Sub) : Bool := s.e.all E.nix && s.l.all L.nix && s.ll.all LL.nix && s.b.all B.nix
theorem getD_mem {α : Type} {l : List α} {i : Nat} {d : α} {p : α → Prop} (hl : ∀ a ∈ l, p a) (hd : p d) : p (l.getD i d) := by
  rw [List.getD]
  cases h : l[i]? with
  | none => simpa using hd
  | some a => simpa using hl a (List.mem_of_getElem? h)
theorem Sub.noix_ok {s : Sub} (h : s.noix = true) : s.nix := by
  intro ρ i
  simp only [Sub.noix, Bool.and_eq_true, List.all_eq_true] at h
  obtain ⟨⟨⟨h1, h2⟩, h3⟩, h4⟩ := h
  simp only [Env.sub, Sub.under, Env.at, Env.mk.injEq, E.den, and_true]
  refine ⟨?_, ?_, ?_, ?_⟩ <;> funext j
  · exact getD_mem (p := fun a : E => a.den (ρ.at i) = a.den ρ) (fun a ha => E.nix_den ρ i a (h1 a ha)) rfl
  · exact getD_mem (p := fun a : L => a.den (ρ.at i) = a.den ρ) (fun a ha => L.nix_den ρ i a (h2 a ha)) rfl
  · exact getD_mem (p := fun a : LL => a.den (ρ.at i) = a.den ρ) (fun a ha => LL.nix_den ρ i a (h3 a ha)) rfl
  · exact getD_mem (p := fun a : B => a.den (ρ.at i) = a.den ρ) (fun a ha => B.nix_den ρ i a (h4 a ha)) rfl

/-! ### values -/
mutual
def V.sub (v : V) (s : Sub) : V := match v with
  | .und => .und
  | .sc x => .sc x
  | .int k e => .int k (e.sub s)
  | .bool b => .bool (b.sub s)
  | .str l => .str (l.sub' s)
  | .ptr id i z c => .ptr id (i.sub s) z c
  | .sl id c off len z top => .sl id c (off.sub s) (len.sub s) z top
  | .fs z r => .fs z (Row.sub r s)
  | .fe r i z c => .fe (Row.sub r s) (i.sub s) z c
  | .key c x => .key c (x.sub s)
  | .opt b v => .opt (b.sub s) (V.sub v s)
  | .agg cs => .agg (V.subs cs s)
  | .tup vs => .tup (V.subs vs s)
  | .fn f a b => .fn f (V.subs a s) (V.subs b s)
termination_by structural v
def V.subs (vs : List V) (s : Sub) : List V := match vs with
  | [] => []
  | v :: vs => V.sub v s :: V.subs vs s
termination_by structural vs
def Row.sub (r : Row) (s : Sub) : Row := match r with
  | .any cs => .any (V.subs cs s)
  | .ints k l => .ints k (l.sub' s)
  | .recs z n t => .recs z (n.sub s) (V.subs t s.under)
termination_by structural r
end
theorem V.subs_map (s : Sub) : ∀ vs : List V, V.subs vs s = vs.map (V.sub · s)
  | [] => rfl
  | v :: vs => by unfold V.subs; rw [V.subs_map s vs]; rfl
def Gm.sub (γ : Gm) (s : Sub) : Gm := { γ with env := γ.env.sub s }
def Bt.sub (β : Bt) (s : Sub) : Bt := ⟨β.g.sub s, β.nm⟩
theorem Gm.sub_at {s : Sub} (hs : s.nix) (γ : Gm) (i : Int) : (γ.at i).sub s.under = (γ.sub s).at i := by
  simp only [Gm.sub, Gm.at, hs γ.env i]
mutual
theorem F1.sub : ∀ {s : Sub} (hs : s.nix) (v : V) (γ : Gm) (y : Value), F1 (v.sub s) γ y ↔ F1 v (γ.sub s) y := by
  intro s hs v γ y
  cases v with
  | sc x => simp only [V.sub, F1]
  | int k e => simp only [V.sub, F1, E.sub_den hs]; exact Iff.rfl
  | bool b => simp only [V.sub, F1, B.sub_den hs]; exact Iff.rfl
  | str l => simp only [V.sub, F1, L.sub_den hs]; exact Iff.rfl
  | fs z r =>
    simp only [V.sub, F1]
    exact exists_congr fun xs => exists_congr fun n => exists_congr fun c => exists_congr fun a => and_congr_right fun _ => and_congr_right fun _ => and_congr_right fun _ => and_congr (Fr.sub hs r γ xs) Iff.rfl
  | fe r i z c =>
    simp only [V.sub, F1, E.sub_den hs]
    exact exists_congr fun xs => exists_congr fun b => exists_congr fun d => exists_congr fun full => and_congr Iff.rfl (and_congr (Fr.sub hs r γ xs) Iff.rfl)
  | key c x => simp only [V.sub, F1, E.sub_den hs]; exact Iff.rfl
  | opt b v => simp only [V.sub, F1, B.sub_den hs]; exact and_congr (imp_congr_right fun _ => F1.sub hs v γ y) Iff.rfl
  | _ => simp only [V.sub, F1]
theorem Fs.sub : ∀ {s : Sub} (hs : s.nix) (vs : List V) (γ : Gm) (xs : List Value), Fs (V.subs vs s) γ xs ↔ Fs vs (γ.sub s) xs := by
  intro s hs vs γ xs
  cases vs with
  | nil => cases xs <;> simp [V.subs, Fs]
  | cons v vs => cases xs with
    | nil => simp [V.subs, Fs]
    | cons x xs => unfold V.subs Fs; exact and_congr (F1.sub hs v γ x) (Fs.sub hs vs γ xs)
theorem Fr.sub : ∀ {s : Sub} (hs : s.nix) (r : Row) (γ : Gm) (xs : List Value), Fr (Row.sub r s) γ xs ↔ Fr r (γ.sub s) xs := by
  intro s hs r γ xs
  cases r with
  | any cs => simp only [Row.sub, Fr]; exact Fs.sub hs cs γ xs
  | ints k l => simp only [Row.sub, Fr, L.sub_den hs]; exact Iff.rfl
  | recs z n t =>
    simp only [Row.sub, Fr, E.sub_den hs]
    refine and_congr Iff.rfl (and_congr Iff.rfl (forall_congr' fun i => imp_congr_right fun _ => ?_))
    rw [← Gm.sub_at hs]
    exact Fs.sub hs.under t (γ.at i) _
end
theorem F2.iff {r r' : V → Value → Prop} {f : V → V} : ∀ {as : List V} {xs : List Value}, (∀ a x, r (f a) x ↔ r' a x) → (F2 r (as.map f) xs ↔ F2 r' as xs)
  | [], [], _ => Iff.rfl
  | [], _ :: _, _ => Iff.rfl
  | _ :: _, [], _ => Iff.rfl
  | a :: as, x :: xs, h => and_congr (h a x) (F2.iff h)
theorem R0.sub {s : Sub} (hs : s.nix) (β : Bt) (v : V) (x : Value) : R0 β (v.sub s) x ↔ R0 (β.sub s) v x := by
  have h := F1.sub hs v β.g x
  cases v with
  | ptr id i z c => simp only [V.sub, R0, E.sub_den hs]; exact Iff.rfl
  | sl id c off len z top => simp only [V.sub, R0, E.sub_den hs]; exact Iff.rfl
  | _ => exact h
theorem R1.sub {s : Sub} (hs : s.nix) (β : Bt) (v : V) (x : Value) : R1 β (v.sub s) x ↔ R1 (β.sub s) v x := by
  have h := R0.sub hs β v x
  cases v with
  | fn f a b =>
    simp only [V.sub, R1, V.subs_map]
    exact exists_congr fun xs => exists_congr fun ys => and_congr Iff.rfl (and_congr (F2.iff fun a x => R0.sub hs β a x) (F2.iff fun a x => R0.sub hs β a x))
  | und => exact Iff.rfl
  | _ => exact h
theorem R2.sub {s : Sub} (hs : s.nix) (β : Bt) (v : V) (x : Value) : R2 β (v.sub s) x ↔ R2 (β.sub s) v x := by
  have h := R1.sub hs β v x
  cases v with
  | agg cs =>
    simp only [V.sub, R2, V.subs_map]
    exact exists_congr fun xs => and_congr Iff.rfl (F2.iff fun a x => R1.sub hs β a x)
  | _ => exact h
theorem R.sub {s : Sub} (hs : s.nix) (β : Bt) (v : V) (x : Value) : R β (v.sub s) x ↔ R (β.sub s) v x := by
  have h := R2.sub hs β v x
  cases v with
  | und => exact Iff.rfl
  | tup vs =>
    simp only [V.sub, R, V.subs_map]
    exact exists_congr fun xs => and_congr Iff.rfl (F2.iff fun a x => R2.sub hs β a x)
  | _ => exact h

/-- a contract without objects, its letters replaced. -/
theorem Spec.sub {P : Program} {ρ : Env} {s : Sub} (hs : s.nix) {g : FuncId} {args : List V} {r : V} {m : Nat} (h : Spec P (ρ.sub s) g args m no r m no) : Spec P ρ g (V.subs args s) m no (r.sub s) m no := by
  refine ⟨h.there, fun β xs w hS hA => ?_⟩
  have nowr : ∀ (β : Bt) b, ¬ Wr β no b := fun β b ⟨_, _, _, e, _⟩ => by cases e
  have hS' : Sim (ρ.sub s) m (β.sub s) no w := ⟨⟨by rw [← hS.env]; rfl, fun _ _ e => (by cases e), fun _ _ _ _ _ _ e => (by cases e), fun b cs hb => ⟨(hS.fzs b cs hb).1, nowr _ b, (hS.fzs b cs hb).2.2⟩, fun b c hb => ⟨(hS.kvs b c hb).1, nowr _ b⟩⟩, hS.fresh⟩
  rw [V.subs_map] at hA
  refine (h.calls (β.sub s) xs w hS' ((F2.iff fun a x => R.sub hs β a x).1 hA)).mono ?_
  rintro e w' ⟨x, β1, he, hR, hS1, st⟩
  let β2 : Bt := ⟨{ β1.g with env := ρ }, β1.nm⟩
  have hβ2 : β2.sub s = β1 := by
    have : β1.g.env = ρ.sub s := hS1.env
    obtain ⟨⟨e1, f1, k1⟩, n1⟩ := β1
    simp only [Bt.sub, Gm.sub, β2]
    simp only at this
    rw [this]
  refine ⟨x, β2, he, (R.sub hs β2 r x).2 (by rw [hβ2]; exact hR), ⟨⟨rfl, fun _ _ e => (by cases e), fun _ _ _ _ _ _ e => (by cases e), fun b cs hb => ⟨(hS1.fzs b cs hb).1, nowr _ b, (hS1.fzs b cs hb).2.2⟩, fun b c hb => ⟨(hS1.kvs b c hb).1, nowr _ b⟩⟩, hS1.fresh⟩,
    ⟨⟨⟨hS.env.symm, st.le.g.fz, st.le.g.kv⟩, st.le.nm⟩, st.os, st.tape, st.output, st.size, fun b hb _ hk => st.fr b hb (nowr _ b) hk, fun b hb => (nowr _ b hb).elim, fun b cs hb => ?_, fun b c hb => ?_⟩⟩
  · rcases st.fzn b cs hb with h | h | h
    · exact .inl h
    · exact (nowr _ b h).elim
    · exact .inr (.inr h)
  · rcases st.kvn b c hb with h | h | h
    · exact .inl h
    · exact (nowr _ b h).elim
    · exact .inr (.inr h)
end Go.Proofs.YtmckhoaekbeijaaGreat.E
/- Code and loops: letters replaced, what is asked and told in other words. Plain Lean over the kit's model; no program. -/
namespace Go.Proofs.YtmckhoaekbeijaaGreat.E
open Go Go.RowKit
set_option linter.unusedVariables false

def Ob.sub (o : Ob) (s : Sub) : Ob := ⟨o.row.sub s, o.rw, o.e⟩
def Sto.sub (σ : Sto) (s : Sub) : Sto := fun id => (σ id).map (·.sub s)
def Fm.sub (fr : Fm) (s : Sub) : Fm := fun t => (fr t).sub s
theorem Sto.sub_some {σ : Sto} {s : Sub} {id : Nat} {o : Ob} (h : σ.sub s id = some o) : ∃ o', σ id = some o' ∧ o = o'.sub s := by
  obtain ⟨o', h1, h2⟩ := Option.map_eq_some_iff.1 h
  exact ⟨o', h1, h2.symm⟩
theorem Sto.sub_mk {σ : Sto} {s : Sub} {id : Nat} {o : Ob} (h : σ id = some o) : σ.sub s id = some (o.sub s) := by
  unfold Sto.sub; rw [h]; rfl
theorem RH.sub {s : Sub} (hs : s.nix) (β : Bt) (r : Row) (xs : List Value) : RH β (r.sub s) xs ↔ RH (β.sub s) r xs := by
  cases r with
  | any cs => simp only [Row.sub, RH, V.subs_map]; exact F2.iff fun a x => R1.sub hs β a x
  | ints k l => exact Fr.sub hs (.ints k l) β.g xs
  | recs z n t => exact Fr.sub hs (.recs z n t) β.g xs
theorem Wr.sub {β : Bt} {σ : Sto} {s : Sub} {b : Nat} : Wr β (σ.sub s) b ↔ Wr (β.sub s) σ b := by
  constructor
  · rintro ⟨id, o, p, h1, h2, h3, h4⟩
    obtain ⟨o', k1, rfl⟩ := Sto.sub_some h1
    exact ⟨id, o', p, k1, h2, h3, h4⟩
  · rintro ⟨id, o, p, h1, h2, h3, h4⟩
    exact ⟨id, o.sub s, p, Sto.sub_mk h1, h2, h3, h4⟩
theorem ObOk.sub {s : Sub} (hs : s.nix) {β : Bt} {w : World} {q : Option Bl} {o : Ob} : ObOk β w q (o.sub s) ↔ ObOk (β.sub s) w q o := by
  cases q with
  | none => exact RH.sub hs β o.row []
  | some p =>
    refine and_congr Iff.rfl (exists_congr fun cur => exists_congr fun xs => exists_congr fun rest => exists_congr fun fz => and_congr Iff.rfl (and_congr Iff.rfl (and_congr Iff.rfl (and_congr (RH.sub hs β o.row xs) Iff.rfl))))
theorem Sim.sub {ρ : Env} {s : Sub} (hs : s.nix) {n : Nat} {β : Bt} {σ : Sto} {w : World} (hρ : β.g.env = ρ) : Sim ρ n β (σ.sub s) w ↔ Sim (ρ.sub s) n (β.sub s) σ w := by
  constructor
  · intro h
    refine ⟨⟨by rw [← hρ]; rfl, fun id o e => ?_, fun id o id' o' p p' e hr e' hne hp hp' => h.sep id _ id' _ p p' (Sto.sub_mk e) hr (Sto.sub_mk e') hne hp hp', fun b cs e => ?_, fun b c e => ?_⟩, h.fresh⟩
    · obtain ⟨q, h1, h2⟩ := h.ob id _ (Sto.sub_mk e)
      exact ⟨q, h1, (ObOk.sub hs).1 h2⟩
    · obtain ⟨h1, h2, h3⟩ := h.fzs b cs e
      exact ⟨h1, fun hc => h2 (Wr.sub.2 hc), h3⟩
    · obtain ⟨h1, h2⟩ := h.kvs b c e
      exact ⟨h1, fun hc => h2 (Wr.sub.2 hc)⟩
  · intro h
    refine ⟨⟨hρ, fun id o e => ?_, fun id o id' o' p p' e hr e' hne hp hp' => ?_, fun b cs e => ?_, fun b c e => ?_⟩, h.fresh⟩
    · obtain ⟨o', k1, rfl⟩ := Sto.sub_some e
      obtain ⟨q, h1, h2⟩ := h.ob id _ k1
      exact ⟨q, h1, (ObOk.sub hs).2 h2⟩
    · obtain ⟨o1, k1, rfl⟩ := Sto.sub_some e
      obtain ⟨o2, k2, rfl⟩ := Sto.sub_some e'
      exact h.sep id o1 id' o2 p p' k1 hr k2 hne hp hp'
    · obtain ⟨h1, h2, h3⟩ := h.fzs b cs e
      exact ⟨h1, fun hc => h2 (Wr.sub.1 hc), h3⟩
    · obtain ⟨h1, h2⟩ := h.kvs b c e
      exact ⟨h1, fun hc => h2 (Wr.sub.1 hc)⟩
theorem FrOk.sub {s : Sub} (hs : s.nix) {β : Bt} {fr : Fm} {nt : Nat} {a : Act} : FrOk β (Fm.sub fr s) nt a ↔ FrOk (β.sub s) fr nt a :=
  and_congr (forall_congr' fun t => R.sub hs β (fr t) _) Iff.rfl
/-- the letters that stood. -/
def Bt.back (β : Bt) (ρ : Env) : Bt := ⟨{ β.g with env := ρ }, β.nm⟩
theorem Bt.back_sub {β : Bt} {ρ : Env} {s : Sub} (h : β.g.env = ρ.sub s) : (β.back ρ).sub s = β := by
  obtain ⟨⟨e1, f1, k1⟩, n1⟩ := β
  simp only [Bt.sub, Gm.sub, Bt.back]
  simp only at h
  rw [h]
theorem Step.sub {ρ : Env} {s : Sub} {e : Nat} {β β' : Bt} {σ σ' : Sto} {w w' : World} (hρ : β.g.env = ρ) (hb : (β'.back ρ).sub s = β') (st : Step e (β.sub s) σ w β' σ' w') : Step e β (σ.sub s) w (β'.back ρ) (σ'.sub s) w' :=
  ⟨⟨⟨hρ.symm, st.le.g.fz, st.le.g.kv⟩, st.le.nm⟩, st.os, st.tape, st.output, st.size, fun b h1 h2 h3 => st.fr b h1 (fun hc => h2 (Wr.sub.2 hc)) h3,
   fun b hb' => by
     have := Wr.sub.1 hb'
     rw [hb] at this
     exact (st.own b this).imp_left Wr.sub.2,
   fun b cs h => (st.fzn b cs h).imp_right fun h => h.imp_left Wr.sub.2, fun b c h => (st.kvn b c h).imp_right fun h => h.imp_left Wr.sub.2⟩
section
variable {P : Program} {ρ : Env} {s : Sub} {e nt n n' k : Nat} {c : Code} {fr fr' : Fm} {σ σ' : Sto} {o : Out}
theorem TC.sub (hs : s.nix) (h : TC P (ρ.sub s) e nt c fr n σ o fr' n' σ') : TC P ρ e nt c (Fm.sub fr s) n (σ.sub s) o (Fm.sub fr' s) n' (σ'.sub s) := by
  intro β a w Q hS hF hQ
  refine h (β.sub s) a w Q ((Sim.sub hs hS.env).1 hS) ((FrOk.sub hs).1 hF) fun β' a' w' hS' hF' st kp => ?_
  have hb := Bt.back_sub (ρ := ρ) (s := s) hS'.env
  exact hQ (β'.back ρ) a' w' ((Sim.sub hs rfl).2 (by rw [hb]; exact hS')) ((FrOk.sub hs).2 (by rw [hb]; exact hF')) (Step.sub hS.env hb st) kp
theorem TR.sub (hs : s.nix) (h : TR P (ρ.sub s) e nt c k fr n σ o fr' n' σ') : TR P ρ e nt c k (Fm.sub fr s) n (σ.sub s) o (Fm.sub fr' s) n' (σ'.sub s) := by
  intro β a w Q hS hF hQ
  refine h (β.sub s) a w Q ((Sim.sub hs hS.env).1 hS) ((FrOk.sub hs).1 hF) fun β' a' w' hS' hF' st kp => ?_
  have hb := Bt.back_sub (ρ := ρ) (s := s) hS'.env
  exact hQ (β'.back ρ) a' w' ((Sim.sub hs rfl).2 (by rw [hb]; exact hS')) ((FrOk.sub hs).2 (by rw [hb]; exact hF')) (Step.sub hS.env hb st) kp
end

/-! ### in other words -/
/-- one value says all that another one says. -/
def V.imp (ρ : Env) (v v' : V) : Prop := ∀ (β : Bt) (x : Value), β.g.env = ρ → R β v x → R β v' x
def Fm.imp (ρ : Env) (fr fr' : Fm) : Prop := ∀ t, V.imp ρ (fr t) (fr' t)
def Row.imp (ρ : Env) (r r' : Row) : Prop := ∀ (β : Bt) (xs : List Value), β.g.env = ρ → RH β r xs → RH β r' xs
/-- the same objects, or fewer; each row says what is asked. -/
def Sto.imp (ρ : Env) (σ σ' : Sto) : Prop := ∀ id o', σ' id = some o' → ∃ o, σ id = some o ∧ o.rw = o'.rw ∧ o.e = o'.e ∧ Row.imp ρ o.row o'.row
theorem V.imp.refl (ρ : Env) (v : V) : V.imp ρ v v := fun _ _ _ h => h
theorem V.imp.und (ρ : Env) (v : V) : V.imp ρ v .und := fun _ _ _ _ => trivial
theorem V.imp.trans {ρ : Env} {a b c : V} (h : V.imp ρ a b) (h' : V.imp ρ b c) : V.imp ρ a c := fun β x e hr => h' β x e (h β x e hr)
theorem Fm.imp.refl (ρ : Env) (fr : Fm) : Fm.imp ρ fr fr := fun _ => V.imp.refl _ _
theorem Row.imp.refl (ρ : Env) (r : Row) : Row.imp ρ r r := fun _ _ _ h => h
theorem Sto.imp.refl (ρ : Env) (σ : Sto) : Sto.imp ρ σ σ := fun _ o h => ⟨o, h, rfl, rfl, Row.imp.refl _ _⟩
theorem Sto.imp.le {ρ : Env} {σ σ' : Sto} (h : σ'.le σ) : Sto.imp ρ σ σ' := fun id o h' => ⟨o, h id o h', rfl, rfl, Row.imp.refl _ _⟩
theorem Sto.imp.trans {ρ : Env} {a b c : Sto} (h : Sto.imp ρ a b) (h' : Sto.imp ρ b c) : Sto.imp ρ a c := fun id o hc => by
  obtain ⟨o1, k1, k2, k3, k4⟩ := h' id o hc
  obtain ⟨o2, l1, l2, l3, l4⟩ := h id o1 k1
  exact ⟨o2, l1, l2.trans k2, l3.trans k3, fun β xs e hr => k4 β xs e (l4 β xs e hr)⟩
theorem V.imp.int {ρ : Env} {k : IntKind} {a b : E} (h : a.den ρ = b.den ρ) : V.imp ρ (.int k a) (.int k b) := fun β x e hr => by
  rw [R_int hr, e, h]; exact R.mkInt β k (by rw [e])
theorem V.imp.bool {ρ : Env} {a b : B} (h : a.den ρ = b.den ρ) : V.imp ρ (.bool a) (.bool b) := fun β x e hr => by
  rw [R_bool hr, e, h]; exact R.mkBool β (by rw [e])
theorem Wr.imp {ρ : Env} {β : Bt} {σ σ' : Sto} (h : Sto.imp ρ σ σ') {b : Nat} (hw : Wr β σ' b) : Wr β σ b := by
  obtain ⟨id, o, p, h1, h2, h3, h4⟩ := hw
  obtain ⟨o', k1, k2, _⟩ := h id o h1
  exact ⟨id, o', p, k1, k2.trans h2, h3, h4⟩
theorem Sim.imp {ρ : Env} {n : Nat} {β : Bt} {σ σ' : Sto} {w : World} (hS : Sim ρ n β σ w) (h : Sto.imp ρ σ σ') : Sim ρ n β σ' w := by
  refine ⟨⟨hS.env, fun id o e => ?_, fun id o id' o' p p' e hr e' hne hp hp' => ?_, fun b cs e => ⟨(hS.fzs b cs e).1, fun hc => (hS.fzs b cs e).2.1 (hc.imp h), (hS.fzs b cs e).2.2⟩, fun b c e => ⟨(hS.kvs b c e).1, fun hc => (hS.kvs b c e).2 (hc.imp h)⟩⟩, hS.fresh⟩
  · obtain ⟨o1, k1, k2, k3, k4⟩ := h id o e
    obtain ⟨q, l1, l2⟩ := hS.ob id o1 k1
    refine ⟨q, l1, ?_⟩
    cases q with
    | none => exact k4 β [] hS.env l2
    | some p =>
      obtain ⟨m1, cur, xs, rest, fz, m2, m3, m4, m5, m6, m7⟩ := l2
      exact ⟨m1, cur, xs, rest, fz, by rw [← k3]; exact m2, m3, m4, k4 β xs hS.env m5, fun hr => m6 (k2.trans hr), fun hr => m7 (k2.trans hr)⟩
  · obtain ⟨o1, k1, k2, _⟩ := h id o e
    obtain ⟨o2, l1, _⟩ := h id' o' e'
    exact hS.sep id o1 id' o2 p p' k1 (k2.trans hr) l1 hne hp hp'
theorem Step.impEnd {ρ : Env} {e : Nat} {β β' : Bt} {σ σ' σ'' : Sto} {w w' : World} (st : Step e β σ w β' σ' w') (h : Sto.imp ρ σ' σ'') : Step e β σ w β' σ'' w' :=
  ⟨st.le, st.os, st.tape, st.output, st.size, st.fr, fun b hb => st.own b (hb.imp h), st.fzn, st.kvn⟩
theorem Step.impAt {ρ : Env} {e : Nat} {β β' : Bt} {σ τ σ' : Sto} {w w' : World} (st : Step e β τ w β' σ' w') (h : Sto.imp ρ σ τ) : Step e β σ w β' σ' w' :=
  ⟨st.le, st.os, st.tape, st.output, st.size, fun b h1 h2 h3 => st.fr b h1 (fun hc => h2 (hc.imp h)) h3, fun b hb => (st.own b hb).imp_left (·.imp h), fun b cs hb => (st.fzn b cs hb).imp_right fun x => x.imp_left (·.imp h), fun b c hb => (st.kvn b c hb).imp_right fun x => x.imp_left (·.imp h)⟩
theorem FrOk.imp {ρ : Env} {β : Bt} {fr fr' : Fm} {nt : Nat} {a : Act} (hF : FrOk β fr nt a) (he : β.g.env = ρ) (h : Fm.imp ρ fr fr') : FrOk β fr' nt a := ⟨fun t => h t β _ he (hF.1 t), hF.2⟩
section
variable {P : Program} {ρ : Env} {e nt n n' k : Nat} {c : Code} {fr fr' gr gr' : Fm} {σ σ' τ τ' : Sto} {o : Out}
theorem TC.imp (h : TC P ρ e nt c fr n σ o fr' n' σ') (h1 : Fm.imp ρ gr fr) (h2 : Sto.imp ρ τ σ) (h3 : Fm.imp ρ fr' gr') (h4 : Sto.imp ρ σ' τ') : TC P ρ e nt c gr n τ o gr' n' τ' :=
  fun β a w Q hS hF hQ => h β a w Q (hS.imp h2) (hF.imp hS.env h1) fun β' a' w' hS' hF' st kp => hQ β' a' w' (hS'.imp h4) (hF'.imp hS'.env h3) ((st.impEnd h4).impAt h2) kp
theorem TR.imp (h : TR P ρ e nt c k fr n σ o fr' n' σ') (h1 : Fm.imp ρ gr fr) (h2 : Sto.imp ρ τ σ) (h3 : Fm.imp ρ fr' gr') (h4 : Sto.imp ρ σ' τ') : TR P ρ e nt c k gr n τ o gr' n' τ' :=
  fun β a w Q hS hF hQ => h β a w Q (hS.imp h2) (hF.imp hS.env h1) fun β' a' w' hS' hF' st kp => hQ β' a' w' (hS'.imp h4) (hF'.imp hS'.env h3) ((st.impEnd h4).impAt h2) kp
theorem Spec.imp {g : FuncId} {args : List V} {r r' : V} (h : Spec P ρ g args n σ r n' σ') (hr : V.imp ρ r r') : Spec P ρ g args n σ r' n' σ' :=
  ⟨h.there, fun β xs w hS hA => (h.calls β xs w hS hA).mono fun e w' ⟨x, β', he, hR, hS', st⟩ => ⟨x, β', he, hr β' x hS'.env hR, hS', st⟩⟩
end
end Go.Proofs.YtmckhoaekbeijaaGreat.E
/- Two ends made one: what differs hangs on a truth. Plain Lean over the kit's model; no program. -/
namespace Go.Proofs.YtmckhoaekbeijaaGreat.E
open Go Go.RowKit
set_option linter.unusedVariables false
set_option maxHeartbeats 1000000

/-! ### alike in writing -/
def scSame (x y : Value) : Bool := match x, y with
  | .slice none a b, .slice none c d => Nat.beq a c && Nat.beq b d
  | .pointer none, .pointer none => true
  | .nilFunc, .nilFunc => true
  | _, _ => false
theorem scSame_ok {x y : Value} (h : scSame x y = true) : x = y := by
  unfold scSame at h
  split at h
  · simp only [Bool.and_eq_true] at h
    rw [Nat.eq_of_beq_eq_true h.1, Nat.eq_of_beq_eq_true h.2]
  · rfl
  · rfl
  · cases h
def fnSame (f g : Fn) : Bool := match f, g with
  | .func a, .func b => Nat.beq a b
  | _, _ => false
theorem fnSame_ok {f g : Fn} (h : fnSame f g = true) : f = g := by
  unfold fnSame at h
  split at h
  · rw [Nat.eq_of_beq_eq_true h]
  · cases h
mutual
def V.same (v u : V) : Bool := match v, u with
  | .und, .und => true
  | .sc x, .sc y => scSame x y
  | .int k e, .int k' e' => Nat.beq (kN k) (kN k') && e.same e'
  | .bool b, .bool b' => b.same b'
  | .str l, .str l' => l.same l'
  | .fs z r, .fs z' r' => Nat.beq z z' && Row.same r r'
  | .fe r i z c, .fe r' i' z' c' => Row.same r r' && i.same i' && Nat.beq z z' && Nat.beq c c'
  | .ptr id i z c, .ptr id' i' z' c' => Nat.beq id id' && i.same i' && Nat.beq z z' && Nat.beq c c'
  | .sl id c o n z t, .sl id' c' o' n' z' t' => Nat.beq id id' && Nat.beq c c' && o.same o' && n.same n' && Nat.beq z z' && bN t t'
  | .key c x, .key c' x' => Nat.beq c c' && x.same x'
  | .opt b v, .opt b' v' => b.same b' && V.same v v'
  | .agg cs, .agg cs' => V.sames cs cs'
  | .tup cs, .tup cs' => V.sames cs cs'
  | .fn f a b, .fn f' a' b' => fnSame f f' && V.sames a a' && V.sames b b'
  | _, _ => false
termination_by structural v
def V.sames (vs us : List V) : Bool := match vs, us with
  | [], [] => true
  | v :: vs, u :: us => V.same v u && V.sames vs us
  | _, _ => false
termination_by structural vs
def Row.same (r q : Row) : Bool := match r, q with
  | .any cs, .any cs' => V.sames cs cs'
  | .ints k l, .ints k' l' => Nat.beq (kN k) (kN k') && l.same l'
  | .recs z n t, .recs z' n' t' => Nat.beq z z' && n.same n' && V.sames t t'
  | _, _ => false
termination_by structural r
end
mutual
theorem V.same_ok : ∀ {v u : V}, v.same u = true → v = u := by
  intro v u h
  cases v <;> cases u <;> first
    | (simp only [V.same] at h; cases h; done)
    | (simp only [V.same, Bool.and_eq_true] at h)
  · rfl
  · rw [scSame_ok h]
  · rw [kN_inj h.1, E.same_ok h.2]
  · rw [B.same_ok h]
  · rw [L.same_ok h]
  · rw [Nat.eq_of_beq_eq_true h.1.1.1, E.same_ok h.1.1.2, Nat.eq_of_beq_eq_true h.1.2, Nat.eq_of_beq_eq_true h.2]
  · rw [Nat.eq_of_beq_eq_true h.1.1.1.1.1, Nat.eq_of_beq_eq_true h.1.1.1.1.2, E.same_ok h.1.1.1.2, E.same_ok h.1.1.2, Nat.eq_of_beq_eq_true h.1.2, bN_inj h.2]
  · rw [Nat.eq_of_beq_eq_true h.1, Row.same_ok h.2]
  · rw [Row.same_ok h.1.1.1, E.same_ok h.1.1.2, Nat.eq_of_beq_eq_true h.1.2, Nat.eq_of_beq_eq_true h.2]
  · rw [Nat.eq_of_beq_eq_true h.1, E.same_ok h.2]
  · rw [B.same_ok h.1, V.same_ok h.2]
  · rw [V.sames_ok h]
  · rw [V.sames_ok h]
  · rw [fnSame_ok h.1.1, V.sames_ok h.1.2, V.sames_ok h.2]
theorem V.sames_ok : ∀ {vs us : List V}, V.sames vs us = true → vs = us := by
  intro vs us h
  cases vs <;> cases us <;> first
    | (simp only [V.sames] at h; cases h; done)
    | (simp only [V.sames, Bool.and_eq_true] at h)
  · rfl
  · rw [V.same_ok h.1, V.sames_ok h.2]
theorem Row.same_ok : ∀ {r q : Row}, r.same q = true → r = q := by
  intro r q h
  cases r <;> cases q <;> first
    | (simp only [Row.same] at h; cases h; done)
    | (simp only [Row.same, Bool.and_eq_true] at h)
  · rw [V.sames_ok h]
  · rw [kN_inj h.1, L.same_ok h.2]
  · rw [Nat.eq_of_beq_eq_true h.1.1, E.same_ok h.1.2, V.sames_ok h.2]
end


/-! ### values -/
def mkIteB (c a b : B) : B := bif a.same b then a else mkNot (mkAnd (mkNot (mkAnd c a)) (mkNot (mkAnd (mkNot c) b)))
theorem mkIteB_den (ρ : Env) (c a b : B) : (mkIteB c a b).den ρ = bif c.den ρ then a.den ρ else b.den ρ := by
  unfold mkIteB
  cases h : a.same b with
  | true => rw [B.same_ok h]; cases c.den ρ <;> rfl
  | false =>
    simp only [cond_false, mkNot_den, mkAnd_den]
    cases c.den ρ <;> simp
/-- does a number lie within its kind? -/
def inK (k : IntKind) (e : E) : Bool := match rng 5 e with
  | (some l, some h) => leb (kMin k) l && leb h (kMax k)
  | _ => false
theorem inK_ok {ρ : Env} {k : IntKind} {e : E} (h : inK k e = true) : k.wrap (e.den ρ) = e.den ρ := by
  unfold inK at h
  have hr := rng_ok ρ 5 e
  split at h
  · rename_i l hh he
    rw [he] at hr
    obtain ⟨h1, h2⟩ := inRg_some hr
    simp only [Bool.and_eq_true] at h
    exact wrap_id k _ (Int.le_trans (leb_ok h.1) h1) (Int.le_trans h2 (leb_ok h.2))
  · cases h
/-- 'x' where 'c' holds, else 'y'. -/
def mkIteE (c : B) (x y : E) : E := match x with
  | .bin .add k a d => bif a.same y && inK k y then .bin .add k y (mkIte c d (.lit 0)) else mkIte c (.bin .add k a d) y
  | x => mkIte c x y
theorem mkIteE_den (ρ : Env) (c : B) (x y : E) : (mkIteE c x y).den ρ = bif c.den ρ then x.den ρ else y.den ρ := by
  unfold mkIteE
  split
  · rename_i k a d
    cases h : a.same y && inK k y with
    | false => rw [cond_false, mkIte_den]
    | true =>
      simp only [Bool.and_eq_true] at h
      rw [cond_true]
      simp only [E.den, mkIte_den, binI]
      rw [E.same_ok h.1]
      cases c.den ρ with
      | true => rfl
      | false => simp only [cond_false, Int.add_zero]; exact inK_ok h.2
  · exact mkIte_den ρ c x y
/-- a pointer that may be none: is there one? which? -/
def optView : V → Option (B × Option V)
  | .opt b v => some (b, some v)
  | .fe r i z c => some (.lit true, some (.fe r i z c))
  | .key c s => some (.lit true, some (.key c s))
  | .sc (.pointer none) => some (.lit false, none)
  | _ => none
theorem optView_ok {β : Bt} {v : V} {b : B} {w : Option V} {x : Value} (h : optView v = some (b, w)) (hr : R1 β v x) : (b.den β.g.env = true → ∃ a, w = some a ∧ F1 a β.g x) ∧ (b.den β.g.env = false → x = .pointer none) := by
  unfold optView at h
  split at h
  · cases h
    simp only [R1, R0, F1] at hr
    exact ⟨fun hb => ⟨_, rfl, hr.1 hb⟩, hr.2⟩
  · cases h
    exact ⟨fun _ => ⟨_, rfl, hr⟩, fun hb => by simp [B.den] at hb⟩
  · cases h
    exact ⟨fun _ => ⟨_, rfl, hr⟩, fun hb => by simp [B.den] at hb⟩
  · cases h
    simp only [R1, R0, F1] at hr
    exact ⟨fun hb => by simp [B.den] at hb, fun _ => hr.1⟩
  · cases h
def innerV : Option V → Option V → Option V
  | some a, some b => if a.same b then some a else none
  | some a, none => some a
  | none, b => b
theorem innerV_ok {w w' : Option V} {a : V} (h : innerV w w' = some a) : (∀ b, w = some b → b = a) ∧ (∀ b, w' = some b → b = a) := by
  unfold innerV at h
  split at h
  · split at h
    · rename_i hs; cases h
      have := V.same_ok hs
      exact ⟨fun b e => by cases e; rfl, fun b e => by cases e; exact this.symm⟩
    · cases h
  · cases h; exact ⟨fun b e => (by cases e; rfl), fun b e => (by cases e)⟩
  · exact ⟨fun b e => (by cases e), fun b e => (by rw [h] at e; cases e; rfl)⟩
def nilSl : V → Bool
  | .sc (.slice none 0 0) => true
  | _ => false
/-- one cell. -/
def merge1 (c : B) (v u : V) : Option V := if v.same u then some v else match v, u with
  | .int k a, .int k' b => if Nat.beq (kN k) (kN k') then some (.int k (mkIteE c a b)) else none
  | .bool a, .bool b => some (.bool (mkIteB c a b))
  | .str a, .str b => some (.str (mkIteL c a b))
  | .ptr id i z o, .ptr id' i' z' o' => if Nat.beq id id' && Nat.beq z z' && Nat.beq o o' then some (.ptr id (mkIte c i i') z o) else none
  | .sl id co off len z top, .sl id' co' off' len' z' top' => if Nat.beq id id' && Nat.beq co co' && Nat.beq z z' && bN top top' then some (.sl id co (mkIte c off off') (mkIte c len len') z top) else none
  | .fs z (.ints k a), u => match u with
    | .fs z' (.ints k' b) => if Nat.beq z z' && Nat.beq (kN k) (kN k') then some (.fs z (.ints k (mkIteL c a b))) else none
    | u => if nilSl u then some (.fs z (.ints k (mkIteL c a .nil))) else none
  | v, .fs z (.ints k b) => if nilSl v then some (.fs z (.ints k (mkIteL c .nil b))) else none
  | v, u => match optView v, optView u with
    | some (b, w), some (b', w') => match innerV w w' with
      | some a => some (.opt (mkIteB c b b') a)
      | none => none
    | _, _ => none
/-- of two values the one that holds says what the third one says. -/
def One (ρ : Env) (r : V → Bt → Value → Prop) (c : B) (v u m : V) : Prop := (c.den ρ = true → ∀ β x, β.g.env = ρ → r v β x → r m β x) ∧ (c.den ρ = false → ∀ β x, β.g.env = ρ → r u β x → r m β x)
theorem nilSl_F1 {γ : Gm} {v : V} {k : IntKind} {z : Nat} {l : L} {x : Value} (hn : nilSl v = true) (hl : l.den γ.env = []) {β : Bt} (hβ : β.g = γ) (h : R1 β v x) : F1 (.fs z (.ints k l)) γ x := by
  unfold nilSl at hn
  split at hn
  · simp only [R1, R0, F1] at h
    obtain ⟨rfl, _⟩ := h
    simp only [F1, Fr]
    exact ⟨[], 0, 0, none, rfl, by simp, Nat.le_refl _, by simp [hl], .inl ⟨rfl, rfl⟩⟩
  · cases hn
theorem merge1_ok {ρ : Env} {c : B} {v u m : V} (h : merge1 c v u = some m) : One ρ (fun v β x => R1 β v x) c v u m := by
  unfold merge1 at h
  split at h
  · rename_i hs
    cases h
    have := V.same_ok hs
    subst this
    exact ⟨fun _ _ _ _ h => h, fun _ _ _ _ h => h⟩
  · split at h
    · rename_i k a k' b
      split at h
      · rename_i hk
        cases h
        have := kN_inj hk; subst this
        exact ⟨fun hc β x e h => by subst e; simp only [R1, R0, F1] at h ⊢; rw [mkIteE_den, hc]; exact h, fun hc β x e h => by subst e; simp only [R1, R0, F1] at h ⊢; rw [mkIteE_den, hc]; exact h⟩
      · cases h
    · cases h
      exact ⟨fun hc β x e h => by subst e; simp only [R1, R0, F1] at h ⊢; rw [mkIteB_den, hc]; exact h, fun hc β x e h => by subst e; simp only [R1, R0, F1] at h ⊢; rw [mkIteB_den, hc]; exact h⟩
    · cases h
      exact ⟨fun hc β x e h => by subst e; simp only [R1, R0, F1] at h ⊢; rw [mkIteL_den, hc]; exact h, fun hc β x e h => by subst e; simp only [R1, R0, F1] at h ⊢; rw [mkIteL_den, hc]; exact h⟩
    · split at h
      · rename_i hs
        simp only [Bool.and_eq_true] at hs
        cases h
        have h1 := Nat.eq_of_beq_eq_true hs.1.1
        have h2 := Nat.eq_of_beq_eq_true hs.1.2
        have h3 := Nat.eq_of_beq_eq_true hs.2
        subst h1 h2 h3
        exact ⟨fun hc β x e h => by subst e; simp only [R1, R0] at h ⊢; rw [mkIte_den, hc]; exact h, fun hc β x e h => by subst e; simp only [R1, R0] at h ⊢; rw [mkIte_den, hc]; exact h⟩
      · cases h
    · split at h
      · rename_i hs
        simp only [Bool.and_eq_true] at hs
        cases h
        have h1 := Nat.eq_of_beq_eq_true hs.1.1.1
        have h2 := Nat.eq_of_beq_eq_true hs.1.1.2
        have h3 := Nat.eq_of_beq_eq_true hs.1.2
        have h4 := bN_inj hs.2
        subst h1 h2 h3 h4
        exact ⟨fun hc β x e h => by subst e; simp only [R1, R0] at h ⊢; rw [mkIte_den, mkIte_den, hc]; exact h, fun hc β x e h => by subst e; simp only [R1, R0] at h ⊢; rw [mkIte_den, mkIte_den, hc]; exact h⟩
      · cases h
    · split at h
      · split at h
        · rename_i hk
          simp only [Bool.and_eq_true] at hk
          cases h
          have h1 := Nat.eq_of_beq_eq_true hk.1
          have h2 := kN_inj hk.2
          subst h1 h2
          exact ⟨fun hc β x e h => by subst e; simp only [R1, R0, F1, Fr] at h ⊢; rw [mkIteL_den, hc]; exact h, fun hc β x e h => by subst e; simp only [R1, R0, F1, Fr] at h ⊢; rw [mkIteL_den, hc]; exact h⟩
        · cases h
      · split at h
        · rename_i hn
          cases h
          exact ⟨fun hc β x e h => by subst e; simp only [R1, R0, F1, Fr] at h ⊢; rw [mkIteL_den, hc]; exact h, fun hc β x e h => by subst e; exact nilSl_F1 hn (by rw [mkIteL_den, hc]; rfl) rfl h⟩
        · cases h
    · split at h
      · rename_i hn
        cases h
        exact ⟨fun hc β x e h => by subst e; exact nilSl_F1 hn (by rw [mkIteL_den, hc]; rfl) rfl h, fun hc β x e h => by subst e; simp only [R1, R0, F1, Fr] at h ⊢; rw [mkIteL_den, hc]; exact h⟩
      · cases h
    · split at h
      · rename_i b w b' w' hv hu
        split at h
        · rename_i a ha
          cases h
          obtain ⟨i1, i2⟩ := innerV_ok ha
          refine ⟨fun hc β x e h => ?_, fun hc β x e h => ?_⟩
          · subst e
            obtain ⟨o1, o2⟩ := optView_ok hv h
            simp only [R1, R0, F1]
            rw [mkIteB_den, hc]
            exact ⟨fun hb => by obtain ⟨a', e1, e2⟩ := o1 hb; rw [← i1 a' e1]; exact e2, o2⟩
          · subst e
            obtain ⟨o1, o2⟩ := optView_ok hu h
            simp only [R1, R0, F1]
            rw [mkIteB_den, hc]
            exact ⟨fun hb => by obtain ⟨a', e1, e2⟩ := o1 hb; rw [← i2 a' e1]; exact e2, o2⟩
        · cases h
      · cases h
def merges (f : V → V → Option V) : List V → List V → Option (List V)
  | [], [] => some []
  | v :: vs, u :: us => match f v u, merges f vs us with
    | some m, some ms => some (m :: ms)
    | _, _ => none
  | _, _ => none
theorem merges_ok {ρ : Env} {c : B} {f : V → V → Option V} {r : V → Bt → Value → Prop} (hf : ∀ v u m, f v u = some m → One ρ r c v u m) : ∀ {vs us ms : List V}, merges f vs us = some ms →
    (c.den ρ = true → ∀ (β : Bt) xs, β.g.env = ρ → F2 (fun v x => r v β x) vs xs → F2 (fun v x => r v β x) ms xs) ∧ (c.den ρ = false → ∀ (β : Bt) xs, β.g.env = ρ → F2 (fun v x => r v β x) us xs → F2 (fun v x => r v β x) ms xs)
  | [], [], ms, h => by cases h; exact ⟨fun _ _ _ _ h => h, fun _ _ _ _ h => h⟩
  | [], _ :: _, ms, h => by cases h
  | _ :: _, [], ms, h => by cases h
  | v :: vs, u :: us, ms, h => by
    unfold merges at h
    split at h
    · rename_i m ms' hm hms
      cases h
      obtain ⟨a1, a2⟩ := hf v u m hm
      obtain ⟨b1, b2⟩ := merges_ok hf hms
      refine ⟨fun hc β xs e h => ?_, fun hc β xs e h => ?_⟩
      · cases xs with
        | nil => exact h.elim
        | cons x xs => exact ⟨a1 hc β x e h.1, b1 hc β xs e h.2⟩
      · cases xs with
        | nil => exact h.elim
        | cons x xs => exact ⟨a2 hc β x e h.1, b2 hc β xs e h.2⟩
    · cases h
def isAggV : V → Bool
  | .agg _ => true
  | _ => false
def merge2 (c : B) (v u : V) : Option V := match v, u with
  | .agg as, .agg bs => match merges (merge1 c) as bs with
    | some cs => some (.agg cs)
    | none => none
  | v, u => if isAggV v || isAggV u then none else merge1 c v u
theorem R2_of1 {β : Bt} {v : V} {x : Value} (hv : isAggV v = false) : R2 β v x ↔ R1 β v x := by
  cases v with
  | agg as => cases hv
  | _ => exact Iff.rfl
theorem merge2_ok {ρ : Env} {c : B} {v u m : V} (h : merge2 c v u = some m) : One ρ (fun v β x => R2 β v x) c v u m := by
  unfold merge2 at h
  split at h
  · split at h
    · rename_i cs hcs
      cases h
      obtain ⟨b1, b2⟩ := merges_ok (ρ := ρ) (c := c) (r := fun v β x => R1 β v x) (fun _ _ _ h => merge1_ok h) hcs
      exact ⟨fun hc β x e ⟨xs, e1, hx⟩ => ⟨xs, e1, b1 hc β _ e hx⟩, fun hc β x e ⟨xs, e1, hx⟩ => ⟨xs, e1, b2 hc β _ e hx⟩⟩
    · cases h
  · split at h
    · cases h
    · rename_i ha
      simp only [Bool.or_eq_true, not_or, Bool.not_eq_true] at ha
      obtain ⟨a1, a2⟩ := merge1_ok (ρ := ρ) h
      exact ⟨fun hc β x e hx => R1.up (a1 hc β x e ((R2_of1 ha.1).1 hx)), fun hc β x e hx => R1.up (a2 hc β x e ((R2_of1 ha.2).1 hx))⟩
def isTupV : V → Bool
  | .tup _ => true
  | .und => true
  | _ => false
theorem R_of2 {β : Bt} {v : V} {x : Value} (hv : isTupV v = false) : R β v x ↔ R2 β v x := by
  cases v with
  | tup as => cases hv
  | und => cases hv
  | _ => exact Iff.rfl
/-- whatever stands in a slot. -/
def merge3 (c : B) (v u : V) : Option V := match v, u with
  | .tup as, .tup bs => match merges (merge2 c) as bs with
    | some cs => some (.tup cs)
    | none => none
  | v, u => if isTupV v || isTupV u then none else merge2 c v u
theorem merge3_ok {ρ : Env} {c : B} {v u m : V} (h : merge3 c v u = some m) : (c.den ρ = true → V.imp ρ v m) ∧ (c.den ρ = false → V.imp ρ u m) := by
  unfold merge3 at h
  split at h
  · split at h
    · rename_i cs hcs
      cases h
      obtain ⟨b1, b2⟩ := merges_ok (ρ := ρ) (c := c) (r := fun v β x => R2 β v x) (fun _ _ _ h => merge2_ok h) hcs
      exact ⟨fun hc β x e ⟨xs, e1, hx⟩ => ⟨xs, e1, b1 hc β _ e hx⟩, fun hc β x e ⟨xs, e1, hx⟩ => ⟨xs, e1, b2 hc β _ e hx⟩⟩
    · cases h
  · split at h
    · cases h
    · rename_i ha
      simp only [Bool.or_eq_true, not_or, Bool.not_eq_true] at ha
      obtain ⟨a1, a2⟩ := merge2_ok (ρ := ρ) h
      exact ⟨fun hc β x e hx => R2.up (a1 hc β x e ((R_of2 ha.1).1 hx)), fun hc β x e hx => R2.up (a2 hc β x e ((R_of2 ha.2).1 hx))⟩
/-- rows that are written out: number by number. -/
def sameLen : L → L → Bool
  | .nil, .nil => true
  | .cons _ a, .cons _ b => sameLen a b
  | _, _ => false
def zipL (c : B) : L → L → L
  | .cons x a, .cons y b => .cons (mkIte c x y) (zipL c a b)
  | a, _ => a
theorem zipL_den (ρ : Env) (c : B) : ∀ {a b : L}, sameLen a b = true → (zipL c a b).den ρ = bif c.den ρ then a.den ρ else b.den ρ
  | .nil, .nil, _ => by cases h : c.den ρ <;> simp only [zipL, L.den] <;> rfl
  | .cons x a, .cons y b, h => by
    have ih := zipL_den ρ c (a := a) (b := b) h
    show (mkIte c x y).den ρ :: (zipL c a b).den ρ = bif c.den ρ then x.den ρ :: a.den ρ else y.den ρ :: b.den ρ
    rw [mkIte_den, ih]
    cases c.den ρ <;> rfl
def mkIteR (c : B) (a b : L) : L := bif sameLen a b then zipL c a b else mkIteL c a b
theorem mkIteR_den (ρ : Env) (c : B) (a b : L) : (mkIteR c a b).den ρ = bif c.den ρ then a.den ρ else b.den ρ := by
  unfold mkIteR
  cases h : sameLen a b with
  | true => rw [cond_true]; exact zipL_den ρ c h
  | false => rw [cond_false]; exact mkIteL_den ρ c a b
def mergeRow (c : B) (r q : Row) : Option Row := if r.same q then some r else match r, q with
  | .ints k a, q => match q.asInts k with
    | some b => some (.ints k (mkIteR c a b))
    | none => none
  | .any as, .ints k b => match (Row.any as).asInts k with
    | some a => some (.ints k (mkIteR c a b))
    | none => none
  | .any as, .any bs => match merges (merge1 c) as bs with
    | some cs => some (.any cs)
    | none => none
  | .recs z n t, .recs z' n' t' => if Nat.beq z z' && V.sames t t' then some (.recs z (mkIte c n n') t) else none
  | _, _ => none
theorem mergeRow_ok {ρ : Env} {c : B} {r q m : Row} (h : mergeRow c r q = some m) : (c.den ρ = true → Row.imp ρ r m) ∧ (c.den ρ = false → Row.imp ρ q m) := by
  unfold mergeRow at h
  split at h
  · rename_i hs
    cases h
    have := Row.same_ok hs
    subst this
    exact ⟨fun _ => Row.imp.refl _ _, fun _ => Row.imp.refl _ _⟩
  · split at h
    · split at h
      · rename_i b hb
        cases h
        refine ⟨fun hc β xs e hx => ?_, fun hc β xs e hx => ?_⟩
        · subst e
          simp only [RH, Fr] at hx ⊢
          rw [mkIteR_den, hc]; exact hx
        · subst e
          simp only [RH, Fr]
          rw [mkIteR_den, hc]; exact Row.asInts_ok hx hb
      · cases h
    · split at h
      · rename_i a ha
        cases h
        refine ⟨fun hc β xs e hx => ?_, fun hc β xs e hx => ?_⟩
        · subst e
          simp only [RH, Fr]
          rw [mkIteR_den, hc]; exact Row.asInts_ok hx ha
        · subst e
          simp only [RH, Fr] at hx ⊢
          rw [mkIteR_den, hc]; exact hx
      · cases h
    · split at h
      · rename_i cs hcs
        cases h
        obtain ⟨b1, b2⟩ := merges_ok (ρ := ρ) (c := c) (r := fun v β x => R1 β v x) (fun _ _ _ h => merge1_ok h) hcs
        exact ⟨fun hc β xs e hx => b1 hc β xs e hx, fun hc β xs e hx => b2 hc β xs e hx⟩
      · cases h
    · split at h
      · rename_i hs
        simp only [Bool.and_eq_true] at hs
        cases h
        have h1 := Nat.eq_of_beq_eq_true hs.1
        have h2 := V.sames_ok hs.2
        subst h1 h2
        refine ⟨fun hc β xs e hx => ?_, fun hc β xs e hx => ?_⟩
        · subst e
          simp only [RH, Fr] at hx ⊢
          rw [mkIte_den, hc]; exact hx
        · subst e
          simp only [RH, Fr] at hx ⊢
          rw [mkIte_den, hc]; exact hx
      · cases h
    · cases h

/-! ### states -/
def mergeFr (c : B) (lv : List Nat) (f g : Fm) : List Nat → Tr V → Option (Tr V)
  | [], tr => some tr
  | t :: ts, tr => if (f t).same (g t) then mergeFr c lv f g ts (tr.put t (some (f t))) else match merge3 c (f t) (g t) with
    | some m => mergeFr c lv f g ts (tr.put t (some m))
    | none => if lv.contains t && !(isTupV (f t)) && !(isTupV (g t)) then none else mergeFr c lv f g ts tr
theorem mergeFr_ok {ρ : Env} {c : B} {lv : List Nat} {f g : Fm} : ∀ {ts : List Nat} {tr m : Tr V}, mergeFr c lv f g ts tr = some m → (c.den ρ = true → Fm.imp ρ f (fmOf tr)) ∧ (c.den ρ = false → Fm.imp ρ g (fmOf tr)) → (c.den ρ = true → Fm.imp ρ f (fmOf m)) ∧ (c.den ρ = false → Fm.imp ρ g (fmOf m))
  | [], tr, m, h, hi => by cases h; exact hi
  | t :: ts, tr, m, h, hi => by
    have put : ∀ v, (c.den ρ = true → V.imp ρ (f t) v) → (c.den ρ = false → V.imp ρ (g t) v) → (c.den ρ = true → Fm.imp ρ f (fmOf (tr.put t (some v)))) ∧ (c.den ρ = false → Fm.imp ρ g (fmOf (tr.put t (some v)))) := by
      intro v h1 h2
      refine ⟨fun hc u => ?_, fun hc u => ?_⟩
      · unfold fmOf
        rw [Tr.get_put]
        by_cases e : u = t
        · subst e; rw [if_pos rfl]; exact h1 hc
        · rw [if_neg e]; exact hi.1 hc u
      · unfold fmOf
        rw [Tr.get_put]
        by_cases e : u = t
        · subst e; rw [if_pos rfl]; exact h2 hc
        · rw [if_neg e]; exact hi.2 hc u
    unfold mergeFr at h
    split at h
    · rename_i hs
      have := V.same_ok hs
      exact mergeFr_ok h (put _ (fun _ => V.imp.refl _ _) (fun _ => by rw [this]; exact V.imp.refl _ _))
    · split at h
      · rename_i v hv
        obtain ⟨h1, h2⟩ := merge3_ok (ρ := ρ) hv
        exact mergeFr_ok h (put v h1 h2)
      · split at h
        · cases h
        · exact mergeFr_ok h hi
def mergeOb (c : B) (n0 : Nat) (f g : Sto) : List Nat → Tr Ob → Option (Tr Ob)
  | [], tr => some tr
  | id :: ids, tr => match f id, g id with
    | some o, some o' => match (if (o.rw == o'.rw) && Nat.beq o.e o'.e then mergeRow c o.row o'.row else none) with
      | some r => mergeOb c n0 f g ids (tr.put id (some ⟨r, o.rw, o.e⟩))
      | none => if Nat.blt id n0 then none else mergeOb c n0 f g ids tr
    | _, _ => mergeOb c n0 f g ids tr
theorem mergeOb_ok {ρ : Env} {c : B} {n0 : Nat} {f g : Sto} : ∀ {ids : List Nat} {tr m : Tr Ob}, mergeOb c n0 f g ids tr = some m → (c.den ρ = true → Sto.imp ρ f tr.get) ∧ (c.den ρ = false → Sto.imp ρ g tr.get) → (c.den ρ = true → Sto.imp ρ f m.get) ∧ (c.den ρ = false → Sto.imp ρ g m.get)
  | [], tr, m, h, hi => by cases h; exact hi
  | id :: ids, tr, m, h, hi => by
    unfold mergeOb at h
    split at h
    · rename_i o o' ho ho'
      split at h
      · rename_i r hr
        split at hr
        · rename_i hc
          simp only [Bool.and_eq_true, beq_iff_eq] at hc
          obtain ⟨h1, h2⟩ := mergeRow_ok (ρ := ρ) hr
          refine mergeOb_ok h ⟨fun hcd j q hq => ?_, fun hcd j q hq => ?_⟩
          · rw [Tr.get_put] at hq
            split at hq
            · rename_i e; subst e; cases hq; exact ⟨o, ho, rfl, rfl, h1 hcd⟩
            · exact hi.1 hcd j q hq
          · rw [Tr.get_put] at hq
            split at hq
            · rename_i e; subst e; cases hq; exact ⟨o', ho', hc.1.symm, (Nat.eq_of_beq_eq_true hc.2).symm, h2 hcd⟩
            · exact hi.2 hcd j q hq
        · cases hr
      · split at h
        · cases h
        · exact mergeOb_ok h hi
    · exact mergeOb_ok h hi
def hasB (b : B) : List B → Bool
  | [] => false
  | a :: l => b.same a || hasB b l
theorem hasB_ok {b : B} : ∀ {l : List B}, hasB b l = true → b ∈ l
  | [], h => by cases h
  | a :: l, h => by
    unfold hasB at h
    rcases (Bool.or_eq_true _ _).mp h with h | h
    · rw [B.same_ok h]; simp
    · exact List.mem_cons_of_mem _ (hasB_ok h)
def mkImp (a b : B) : B := mkNot (mkAnd a (mkNot b))
theorem mkImp_den (ρ : Env) (a b : B) : (mkImp a b).den ρ = (!a.den ρ || b.den ρ) := by
  simp only [mkImp, mkNot_den, mkAnd_den]
  cases a.den ρ <;> cases b.den ρ <;> rfl
def mergeOk (c : B) (l1 l2 : List B) : List B :=
  let com := l1.filter fun b => hasB b l2
  com ++ ((l1.filter fun b => !hasB b l2).map (mkImp c) ++ (l2.filter fun b => !hasB b com).map (mkImp (mkNot c)))
theorem mergeOk_ok {ρ : Env} {c : B} {l1 l2 : List B} (h : okOk ρ (mergeOk c l1 l2)) : (c.den ρ = true → okOk ρ l1) ∧ (c.den ρ = false → okOk ρ l2) := by
  unfold mergeOk at h
  simp only at h
  refine ⟨fun hc b hb => ?_, fun hc b hb => ?_⟩
  · cases hm : hasB b l2 with
    | true => exact h b (List.mem_append.2 (.inl (List.mem_filter.2 ⟨hb, hm⟩)))
    | false =>
      have := h (mkImp c b) (List.mem_append.2 (.inr (List.mem_append.2 (.inl (List.mem_map.2 ⟨b, List.mem_filter.2 ⟨hb, by rw [hm]; rfl⟩, rfl⟩)))))
      rw [mkImp_den, hc] at this; simpa using this
  · cases hm : hasB b (l1.filter fun b => hasB b l2) with
    | true => exact h b (List.mem_append.2 (.inl (hasB_ok hm)))
    | false =>
      have := h (mkImp (mkNot c) b) (List.mem_append.2 (.inr (List.mem_append.2 (.inr (List.mem_map.2 ⟨b, List.mem_filter.2 ⟨hb, by rw [hm]; rfl⟩, rfl⟩)))))
      rw [mkImp_den, mkNot_den, hc] at this; simpa using this
/-- two states made one. -/
def upto : Nat → List Nat
  | 0 => []
  | n + 1 => n :: upto n
def mergeSt (nt n0 : Nat) (lv : List Nat) (kn : Kn) (c : B) (s s' : St) : Option St :=
  match mergeFr c lv s.fr s'.fr (upto nt) .nil with
  | none => none
  | some tr => match mergeOb c n0 s.σ s'.σ (upto (Nat.max s.n s'.n)) .nil with
    | some ob => some ⟨tr, Nat.max s.n s'.n, ob, mergeOk c s.ok s'.ok, kn⟩
    | none => none
/-- one state says all that another one says. -/
structure St.le (ρ : Env) (s m : St) : Prop where
  fr : Fm.imp ρ s.fr m.fr
  σ : Sto.imp ρ s.σ m.σ
  n : s.n ≤ m.n
  ok : okOk ρ m.ok → okOk ρ s.ok
  kn : knOk ρ s.kn → knOk ρ m.kn
theorem St.le.refl (ρ : Env) (s : St) : St.le ρ s s := ⟨Fm.imp.refl _ _, Sto.imp.refl _ _, Nat.le_refl _, fun h => h, fun h => h⟩
theorem St.le.trans {ρ : Env} {a b c : St} (h : St.le ρ a b) (k : St.le ρ b c) : St.le ρ a c := ⟨fun t => (h.fr t).trans (k.fr t), h.σ.trans k.σ, Nat.le_trans h.n k.n, fun x => h.ok (k.ok x), fun x => k.kn (h.kn x)⟩
theorem mergeSt_ok {ρ : Env} {nt n0 : Nat} {lv : List Nat} {kn : Kn} (hkn : knOk ρ kn) {c : B} {s s' m : St} (h : mergeSt nt n0 lv kn c s s' = some m) : (c.den ρ = true → St.le ρ s m) ∧ (c.den ρ = false → St.le ρ s' m) := by
  unfold mergeSt at h
  split at h
  · cases h
  · rename_i tr htr
    split at h
    · rename_i ob hob
      cases h
      have nilF : ∀ f : Fm, Fm.imp ρ f (fmOf .nil) := fun f t => V.imp.und _ _
      have nilO : ∀ f : Sto, Sto.imp ρ f (Tr.nil : Tr Ob).get := fun f id o e => by cases e
      obtain ⟨f1, f2⟩ := mergeFr_ok (ρ := ρ) htr ⟨fun _ => nilF _, fun _ => nilF _⟩
      obtain ⟨o1, o2⟩ := mergeOb_ok (ρ := ρ) hob ⟨fun _ => nilO _, fun _ => nilO _⟩
      exact ⟨fun hc => ⟨f1 hc, o1 hc, Nat.le_max_left _ _, fun hok => (mergeOk_ok hok).1 hc, fun _ => hkn⟩, fun hc => ⟨f2 hc, o2 hc, Nat.le_max_right _ _, fun hok => (mergeOk_ok hok).2 hc, fun _ => hkn⟩⟩
    · cases h
/-- trees with ends made one. -/
def mergeT {α : Type} (mk : B → α → α → Option α) : T α → T α
  | .leaf a => .leaf a
  | .dead => .dead
  | .br c l r => match mergeT mk l, mergeT mk r with
    | .leaf a, .leaf b => match mk c a b with
      | some m => .leaf m
      | none => .br c (.leaf a) (.leaf b)
    | l', r' => .br c l' r'
theorem mergeT_ok {α : Type} {ρ : Env} {mk : B → α → α → Option α} {r : α → α → Prop} (hr : ∀ a, r a a) (ht : ∀ a b c, r a b → r b c → r a c) (hm : ∀ c a b m, mk c a b = some m → (c.den ρ = true → r a m) ∧ (c.den ρ = false → r b m)) : ∀ {t : T α} {m : α}, (mergeT mk t).pick ρ = some m → ∃ a, t.pick ρ = some a ∧ r a m
  | .leaf a, m, h => ⟨m, h, hr m⟩
  | .dead, m, h => by cases h
  | .br c l r', m, h => by
    have il := fun m h => mergeT_ok hr ht hm (t := l) (m := m) h
    have ir := fun m h => mergeT_ok hr ht hm (t := r') (m := m) h
    unfold mergeT at h
    generalize mergeT mk l = L at h il
    generalize mergeT mk r' = R at h ir
    have plain : ∀ m, (T.br c L R).pick ρ = some m → ∃ a, (T.br c l r').pick ρ = some a ∧ r a m := by
      intro m h
      simp only [T.pick] at h ⊢
      cases hc : c.den ρ with
      | true => rw [hc] at h; exact il m h
      | false => rw [hc] at h; exact ir m h
    split at h
    · rename_i a b
      split at h
      · rename_i m' hm'
        simp only [T.pick, Option.some.injEq] at h
        subst h
        obtain ⟨k1, k2⟩ := hm c a b m' hm'
        simp only [T.pick]
        cases hc : c.den ρ with
        | true =>
          obtain ⟨x, h1, h2⟩ := il a rfl
          exact ⟨x, h1, ht _ _ _ h2 (k1 hc)⟩
        | false =>
          obtain ⟨x, h1, h2⟩ := ir b rfl
          exact ⟨x, h1, ht _ _ _ h2 (k2 hc)⟩
      · exact plain m h
    · exact plain m h
/-! ends of two kinds -/
def joinO {α : Type} (mk : B → α → α → Option α) (c : B) (x y : Option α) : Option (Option α) := match x, y with
  | none, y => some y
  | some a, none => some (some a)
  | some a, some b => match mk c a b with
    | some m => some (some m)
    | none => none
def splitT {α : Type} (mk : B → α → α → Option α) (p : α → Bool) : T α → Option (B × Option α × Option α)
  | .leaf a => bif p a then some (.lit true, some a, none) else some (.lit false, none, some a)
  | .dead => none
  | .br c l r => match splitT mk p l, splitT mk p r with
    | some x, some y => match joinO mk c x.2.1 y.2.1, joinO mk c x.2.2 y.2.2 with
      | some a, some z => some (mkIteB c x.1 y.1, a, z)
      | _, _ => none
    | _, _ => none
theorem joinO_ok {α : Type} {ρ : Env} {mk : B → α → α → Option α} {r : α → α → Prop} (hr : ∀ a, r a a) (hm : ∀ c a b m, mk c a b = some m → (c.den ρ = true → r a m) ∧ (c.den ρ = false → r b m)) {c : B} {x y z : Option α} (h : joinO mk c x y = some z) :
    (c.den ρ = true → ∀ a, x = some a → ∃ m, z = some m ∧ r a m) ∧ (c.den ρ = false → ∀ b, y = some b → ∃ m, z = some m ∧ r b m) := by
  unfold joinO at h
  split at h
  · cases h
    exact ⟨fun _ a e => (by cases e), fun _ b e => ⟨b, e, hr b⟩⟩
  · rename_i a
    cases h
    exact ⟨fun _ a' e => ⟨_, e, hr _⟩, fun _ b e => (by cases e)⟩
  · rename_i a b
    split at h
    · rename_i m hmk
      cases h
      obtain ⟨k1, k2⟩ := hm _ _ _ _ hmk
      refine ⟨fun hc a' e => ?_, fun hc b' e => ?_⟩
      · cases e; exact ⟨m, rfl, k1 hc⟩
      · cases e; exact ⟨m, rfl, k2 hc⟩
    · cases h
theorem splitT_ok {α : Type} {ρ : Env} {mk : B → α → α → Option α} {p : α → Bool} {r : α → α → Prop} (hr : ∀ a, r a a) (ht : ∀ a b c, r a b → r b c → r a c) (hm : ∀ c a b m, mk c a b = some m → (c.den ρ = true → r a m) ∧ (c.den ρ = false → r b m)) : ∀ {t : T α} {b : B} {x z : Option α}, splitT mk p t = some (b, x, z) → ∃ q m, t.pick ρ = some q ∧ r q m ∧ (bif b.den ρ then x else z) = some m
  | .leaf a, b, x, z, h => by
    unfold splitT at h
    cases hp : p a with
    | true => rw [hp] at h; cases h; exact ⟨a, a, rfl, hr a, rfl⟩
    | false => rw [hp] at h; cases h; exact ⟨a, a, rfl, hr a, rfl⟩
  | .dead, b, x, z, h => by cases h
  | .br c l r', b, x, z, h => by
    unfold splitT at h
    split at h
    · rename_i xl xr hl hr'
      split at h
      · rename_i a z' ha hz
        cases h
        obtain ⟨bl, al, zl⟩ := xl
        obtain ⟨br, ar, zr⟩ := xr
        obtain ⟨a1, a2⟩ := joinO_ok hr hm ha
        obtain ⟨z1, z2⟩ := joinO_ok hr hm hz
        simp only at a1 a2 z1 z2
        simp only [T.pick, mkIteB_den]
        cases hc : c.den ρ with
        | true =>
          obtain ⟨q, m, k1, k2, k3⟩ := splitT_ok hr ht hm hl
          simp only [cond_true]
          cases hb : bl.den ρ with
          | true =>
            rw [hb] at k3
            obtain ⟨m', e1, e2⟩ := a1 hc m k3
            exact ⟨q, m', k1, ht _ _ _ k2 e2, e1⟩
          | false =>
            rw [hb] at k3
            obtain ⟨m', e1, e2⟩ := z1 hc m k3
            exact ⟨q, m', k1, ht _ _ _ k2 e2, e1⟩
        | false =>
          obtain ⟨q, m, k1, k2, k3⟩ := splitT_ok hr ht hm hr'
          simp only [cond_false]
          cases hb : br.den ρ with
          | true =>
            rw [hb] at k3
            obtain ⟨m', e1, e2⟩ := a2 hc m k3
            exact ⟨q, m', k1, ht _ _ _ k2 e2, e1⟩
          | false =>
            rw [hb] at k3
            obtain ⟨m', e1, e2⟩ := z2 hc m k3
            exact ⟨q, m', k1, ht _ _ _ k2 e2, e1⟩
      · cases h
    · cases h
/-- a truth that is asked for as a whole. -/
def hidB (b : B) : B := .lt (.lit 0) (.ofB b)
theorem hidB_den (ρ : Env) (b : B) : (hidB b).den ρ = b.den ρ := by
  show ltb 0 (b2i (b.den ρ)) = _
  cases b.den ρ <;> rfl
/-- is it one end, or one of each kind? -/
def fewT {α : Type} : T α → Bool
  | .br _ (.leaf _) (.leaf _) => true
  | .br _ _ _ => false
  | _ => true
def mergeW {α : Type} (mk : B → α → α → Option α) (p : α → Bool) (t : T α) : T α :=
  bif fewT t then t else match splitT mk p t with
    | some (b, some a, some z) => .br (hidB b) (.leaf a) (.leaf z)
    | _ => t
theorem mergeW_ok {α : Type} {ρ : Env} {mk : B → α → α → Option α} {p : α → Bool} {r : α → α → Prop} (hr : ∀ a, r a a) (ht : ∀ a b c, r a b → r b c → r a c) (hm : ∀ c a b m, mk c a b = some m → (c.den ρ = true → r a m) ∧ (c.den ρ = false → r b m)) {t : T α} {m : α} (h : (mergeW mk p t).pick ρ = some m) : ∃ a, t.pick ρ = some a ∧ r a m := by
  unfold mergeW at h
  cases hf : fewT t with
  | true => rw [hf] at h; exact ⟨m, h, hr m⟩
  | false =>
    rw [hf, cond_false] at h
    split at h
    · rename_i b a z hs
      obtain ⟨q, m', k1, k2, k3⟩ := splitT_ok hr ht hm hs
      simp only [T.pick, hidB_den] at h
      have : m' = m := by
        cases hb : b.den ρ with
        | true => rw [hb] at h k3; simp only [cond_true] at h k3; rw [h] at k3; exact (Option.some.inj k3).symm
        | false => rw [hb] at h k3; simp only [cond_false] at h k3; rw [h] at k3; exact (Option.some.inj k3).symm
      subst this
      exact ⟨q, k1, k2⟩
    · exact ⟨m, h, hr m⟩
def normE (q : Out × St) : Bool := match q.1 with
  | .normal => true
  | _ => false
/-- are ends made one? 2: two kinds of them, told apart by one truth. -/
def onM (mg : Nat) : Bool := Nat.blt 0 mg
/-- ends of a piece of code. -/
def mkEnd (nt n0 : Nat) (lv : List Nat) (kn : Kn) (c : B) (a b : Out × St) : Option (Out × St) :=
  if a.1 = b.1 then match mergeSt nt n0 lv kn c a.2 b.2 with
    | some m => some (a.1, m)
    | none => none
  else none
def EndLe (ρ : Env) (a b : Out × St) : Prop := a.1 = b.1 ∧ St.le ρ a.2 b.2
theorem mkEnd_ok {ρ : Env} {nt n0 : Nat} {lv : List Nat} {kn : Kn} (hkn : knOk ρ kn) (c : B) (a b m : Out × St) (h : mkEnd nt n0 lv kn c a b = some m) : (c.den ρ = true → EndLe ρ a m) ∧ (c.den ρ = false → EndLe ρ b m) := by
  unfold mkEnd at h
  split at h
  · rename_i ho
    split at h
    · rename_i m' hm
      cases h
      obtain ⟨k1, k2⟩ := mergeSt_ok hkn hm
      exact ⟨fun hc => ⟨rfl, k1 hc⟩, fun hc => ⟨ho.symm, k2 hc⟩⟩
    · cases h
  · cases h
/-- results of a function. -/
def mkRes (n0 : Nat) (kn : Kn) (c : B) (a b : V × St) : Option (V × St) := match merge3 c a.1 b.1 with
  | some v => match mergeSt 0 n0 [] kn c a.2 b.2 with
    | some m => some (v, m)
    | none => none
  | none => none
def ResLe (ρ : Env) (a b : V × St) : Prop := V.imp ρ a.1 b.1 ∧ St.le ρ a.2 b.2
theorem mkRes_ok {ρ : Env} {n0 : Nat} {kn : Kn} (hkn : knOk ρ kn) (c : B) (a b m : V × St) (h : mkRes n0 kn c a b = some m) : (c.den ρ = true → ResLe ρ a m) ∧ (c.den ρ = false → ResLe ρ b m) := by
  unfold mkRes at h
  split at h
  · rename_i v hv
    split at h
    · rename_i m' hm
      cases h
      obtain ⟨k1, k2⟩ := mergeSt_ok hkn hm
      obtain ⟨v1, v2⟩ := merge3_ok (ρ := ρ) hv
      exact ⟨fun hc => ⟨v1 hc, k1 hc⟩, fun hc => ⟨v2 hc, k2 hc⟩⟩
    · cases h
  · cases h
theorem Sim.monoN {ρ : Env} {n n' : Nat} {β : Bt} {σ : Sto} {w : World} (h : Sim ρ n β σ w) (hn : n ≤ n') : Sim ρ n' β σ w := ⟨h.toSimL, fun id hid => h.fresh id (Nat.le_trans hn hid)⟩
theorem TC.up {P : Program} {ρ : Env} {e nt n : Nat} {c : Code} {fr : Fm} {σ : Sto} {a b : Out × St} (h : TC P ρ e nt c fr n σ a.1 a.2.fr a.2.n a.2.σ) (hl : EndLe ρ a b) : TC P ρ e nt c fr n σ b.1 b.2.fr b.2.n b.2.σ := by
  rw [← hl.1]
  have h1 := h.imp (Fm.imp.refl ρ _) (Sto.imp.refl ρ _) hl.2.fr hl.2.σ
  exact fun β x w Q hS hF hQ => h1 β x w Q hS hF fun β' a' w' hS' hF' st kp => hQ β' a' w' (hS'.monoN hl.2.n) hF' st kp
end Go.Proofs.YtmckhoaekbeijaaGreat.E
/- Loops that look for something: told by the first one at which they stop. Plain Lean over the kit's model; no program. -/
namespace Go.Proofs.YtmckhoaekbeijaaGreat.E
open Go Go.RowKit
set_option linter.unusedVariables false

/-- the slots that a loop writes, each once. -/
def addNew : List Nat → List Nat → List Nat
  | [], acc => acc
  | t :: l, acc => if acc.contains t then addNew l acc else addNew l (t :: acc)
theorem addNew_mem : ∀ (l acc : List Nat) (t : Nat), (addNew l acc).contains t = (l.contains t || acc.contains t)
  | [], acc, t => by simp [addNew]
  | u :: l, acc, t => by
    unfold addNew
    split
    · rename_i h
      rw [addNew_mem l acc t]
      by_cases e : t = u
      · subst e; simp only [h, Bool.or_true]
      · have : (u :: l).contains t = l.contains t := by simp [e]
        rw [this]
    · rw [addNew_mem l (u :: acc) t]
      simp only [List.contains_cons]
      cases (t == u) <;> cases l.contains t <;> simp
/-- slots and objects that are not asked for stay. -/
theorem TR.frame {P : Program} {ρ : Env} {e nt n n' k : Nat} {c : Code} {fr gr fr' gr' : Fm} {σs τ σ' τ' : Sto} {o : Out} (h : TR P ρ n nt c k fr n σs o fr' n' σ') (he : e ≤ n) (hfr : Fm.imp ρ gr fr) (hσ : Sto.imp ρ τ σs)
    (hgr : ∀ t, V.imp ρ (fr' t) (gr' t) ∨ ((dsts c).contains t = false ∧ gr' t = gr t)) (hτ : ∀ id o, τ' id = some o → σ' id = some o ∧ (n ≤ id ∨ (σs id).isSome = true) ∨ (σs id = none ∧ τ id = some o)) : TR P ρ e nt c k gr n τ o gr' n' τ' := by
  intro β a w Q hS hF hQ
  -- the objects that are asked for, in the words of the loop; the others as they are
  let τ1 : Sto := fun id => match σs id with
    | some o => some o
    | none => τ id
  have h1 : Sto.imp ρ τ τ1 := by
    intro id o' e'
    simp only [τ1] at e'
    split at e'
    · rename_i o1; cases e'; exact hσ id _ (by assumption)
    · exact ⟨o', e', rfl, rfl, Row.imp.refl _ _⟩
  have hle : σs.le τ1 := fun id o' e' => by simp only [τ1, e']
  have hS1 := hS.imp h1
  refine h β a w Q (hS1.drop hle) (hF.imp hS.env hfr) fun β' a' w' hS' hF' st kp => ?_
  obtain ⟨f1, f2⟩ := E.frame hS1 hle st hS'
  have hall := hS1.all f2
  have hlt : τ'.le (Sto.over n τ1 σs σ') := by
    intro id o' e'
    unfold Sto.over
    rcases hτ id o' e' with ⟨k1, k2⟩ | ⟨k1, k2⟩
    · rcases k2 with k2 | k2
      · rw [if_pos (by simpa using k2)]; exact k1
      · split
        · exact k1
        · first | exact k1 | (rw [if_pos k2]; exact k1)
    · have hl : id < n := by
        obtain ⟨q, hq, _⟩ := hS.ob id o' k2
        exact hS.lt hq
      rw [if_neg (by simp; omega), k1]
      simp only [τ1, k1, Option.isSome_none, Bool.false_eq_true, if_false]
      exact k2
  refine hQ β' a' w' (f1.drop hlt) ⟨fun t => ?_, hF'.2⟩ (((f2.dropEnd hlt).weaken he).impAt h1) kp
  rcases hgr t with k1 | ⟨k1, k2⟩
  · exact k1 β' _ hS'.env (hF'.1 t)
  · rw [kp.1 t k1, k2]; exact (hF.1 t).mono hall


/-! ### values that do not hang on the index -/
mutual
def V.nix (v : V) : Bool := match v with
  | .und | .sc _ => true
  | .int _ e => e.nix
  | .bool b => b.nix
  | .str l => l.nix
  | .ptr _ i _ _ => i.nix
  | .sl _ _ off len _ _ => off.nix && len.nix
  | .fs _ r => Row.nix r
  | .fe r i _ _ => Row.nix r && i.nix
  | .key _ s => s.nix
  | .opt b v => b.nix && V.nix v
  | .agg cs => V.nixs cs
  | .tup cs => V.nixs cs
  | .fn _ a b => V.nixs a && V.nixs b
termination_by structural v
def V.nixs (vs : List V) : Bool := match vs with
  | [] => true
  | v :: vs => V.nix v && V.nixs vs
termination_by structural vs
def Row.nix (r : Row) : Bool := match r with
  | .any cs => V.nixs cs
  | .ints _ l => l.nix
  | .recs _ n _ => n.nix
termination_by structural r
end
def Bt.atx (β : Bt) (i : Int) : Bt := ⟨β.g.at i, β.nm⟩
mutual
theorem F1.nix : ∀ (v : V) (γ : Gm) (i : Int) (x : Value), v.nix = true → (F1 v (γ.at i) x ↔ F1 v γ x) := by
  intro v γ i x h
  cases v with
  | int k e => simp only [V.nix] at h; simp only [F1, Gm.at, E.nix_den γ.env i e h]
  | bool b => simp only [V.nix] at h; simp only [F1, Gm.at, B.nix_den γ.env i b h]
  | str l => simp only [V.nix] at h; simp only [F1, Gm.at, L.nix_den γ.env i l h]
  | fs z r =>
    simp only [V.nix] at h
    simp only [F1]
    exact exists_congr fun xs => exists_congr fun n => exists_congr fun c => exists_congr fun a => and_congr_right fun _ => and_congr_right fun _ => and_congr_right fun _ => and_congr (Fr.nix r γ i xs h) Iff.rfl
  | fe r e z c =>
    simp only [V.nix, Bool.and_eq_true] at h
    simp only [F1]
    refine exists_congr fun xs => exists_congr fun b => exists_congr fun d => exists_congr fun full => and_congr ?_ (and_congr (Fr.nix r γ i xs h.1) Iff.rfl)
    rw [show (γ.at i).env = γ.env.at i from rfl, E.nix_den γ.env i e h.2]
  | key c s =>
    simp only [V.nix] at h
    simp only [F1]
    rw [show (γ.at i).env = γ.env.at i from rfl, E.nix_den γ.env i s h]; exact Iff.rfl
  | opt b v =>
    simp only [V.nix, Bool.and_eq_true] at h
    simp only [F1]
    rw [show (γ.at i).env = γ.env.at i from rfl, B.nix_den γ.env i b h.1]
    exact and_congr (imp_congr_right fun _ => F1.nix v γ i x h.2) Iff.rfl
  | _ => simp only [F1]
theorem Fs.nix : ∀ (vs : List V) (γ : Gm) (i : Int) (xs : List Value), V.nixs vs = true → (Fs vs (γ.at i) xs ↔ Fs vs γ xs) := by
  intro vs γ i xs h
  cases vs with
  | nil => cases xs <;> simp [Fs]
  | cons v vs =>
    simp only [V.nixs, Bool.and_eq_true] at h
    cases xs with
    | nil => simp [Fs]
    | cons x xs => unfold Fs; exact and_congr (F1.nix v γ i x h.1) (Fs.nix vs γ i xs h.2)
theorem Fr.nix : ∀ (r : Row) (γ : Gm) (i : Int) (xs : List Value), r.nix = true → (Fr r (γ.at i) xs ↔ Fr r γ xs) := by
  intro r γ i xs h
  cases r with
  | any cs => simp only [Row.nix] at h; simp only [Fr]; exact Fs.nix cs γ i xs h
  | ints k l => simp only [Row.nix] at h; simp only [Fr, Gm.at, L.nix_den γ.env i l h]
  | recs z n t =>
    simp only [Row.nix] at h
    simp only [Fr]
    rw [show (γ.at i).env = γ.env.at i from rfl, E.nix_den γ.env i n h]
    exact Iff.rfl
end
theorem V.nixs_all : ∀ (vs : List V), V.nixs vs = vs.all V.nix
  | [] => rfl
  | v :: vs => by unfold V.nixs; rw [List.all_cons, V.nixs_all vs]
theorem F2.nixc {β : Bt} {i : Int} {r : Bt → V → Value → Prop} (hr : ∀ v x, V.nix v = true → (r (β.atx i) v x ↔ r β v x)) : ∀ {vs : List V} {xs : List Value}, V.nixs vs = true → (F2 (r (β.atx i)) vs xs ↔ F2 (r β) vs xs)
  | [], [], _ => Iff.rfl
  | [], _ :: _, _ => Iff.rfl
  | _ :: _, [], _ => Iff.rfl
  | v :: vs, x :: xs, h => by
    simp only [V.nixs, Bool.and_eq_true] at h
    exact and_congr (hr v x h.1) (F2.nixc hr h.2)
theorem R0.nix {β : Bt} {i : Int} (v : V) (x : Value) (h : v.nix = true) : R0 (β.atx i) v x ↔ R0 β v x := by
  cases v with
  | ptr id e z c =>
    simp only [V.nix] at h
    simp only [R0]
    rw [show (β.atx i).g.env = β.g.env.at i from rfl, E.nix_den β.g.env i e h]; exact Iff.rfl
  | sl id co off len z top =>
    simp only [V.nix, Bool.and_eq_true] at h
    simp only [R0]
    rw [show (β.atx i).g.env = β.g.env.at i from rfl, E.nix_den β.g.env i off h.1, E.nix_den β.g.env i len h.2]; exact Iff.rfl
  | und => simp only [R0, F1]
  | agg cs => simp only [R0, F1]
  | tup cs => simp only [R0, F1]
  | fn f a b => simp only [R0, F1]
  | sc y => exact F1.nix (.sc y) β.g i x h
  | int k e => exact F1.nix (.int k e) β.g i x h
  | bool b => exact F1.nix (.bool b) β.g i x h
  | str l => exact F1.nix (.str l) β.g i x h
  | fs z r => exact F1.nix (.fs z r) β.g i x h
  | fe r e z c => exact F1.nix (.fe r e z c) β.g i x h
  | key c s => exact F1.nix (.key c s) β.g i x h
  | opt b v => exact F1.nix (.opt b v) β.g i x h
theorem R1.nix {β : Bt} {i : Int} (v : V) (x : Value) (h : v.nix = true) : R1 (β.atx i) v x ↔ R1 β v x := by
  have base := R0.nix (β := β) (i := i) v x h
  cases v with
  | fn f a b =>
    simp only [V.nix, Bool.and_eq_true] at h
    exact exists_congr fun xs => exists_congr fun ys => and_congr Iff.rfl (and_congr (F2.nixc (r := R0) R0.nix h.1) (F2.nixc (r := R0) R0.nix h.2))
  | und => exact Iff.rfl
  | _ => exact base
theorem R2.nix {β : Bt} {i : Int} (v : V) (x : Value) (h : v.nix = true) : R2 (β.atx i) v x ↔ R2 β v x := by
  have base := R1.nix (β := β) (i := i) v x h
  cases v with
  | agg cs =>
    simp only [V.nix] at h
    exact exists_congr fun xs => and_congr Iff.rfl (F2.nixc (r := R1) R1.nix h)
  | _ => exact base
theorem R.nix {β : Bt} {i : Int} (v : V) (x : Value) (h : v.nix = true) : R (β.atx i) v x ↔ R β v x := by
  have base := R2.nix (β := β) (i := i) v x h
  cases v with
  | und => exact Iff.rfl
  | tup cs =>
    simp only [V.nix] at h
    exact exists_congr fun xs => and_congr Iff.rfl (F2.nixc (r := R2) R2.nix h)
  | _ => exact base
theorem RH.nix {β : Bt} {i : Int} (r : Row) (xs : List Value) (h : r.nix = true) : RH (β.atx i) r xs ↔ RH β r xs := by
  cases r with
  | any cs => simp only [Row.nix] at h; exact F2.nixc (r := R1) R1.nix h
  | ints k l => exact Fr.nix (.ints k l) β.g i xs h
  | recs z n t => exact Fr.nix (.recs z n t) β.g i xs h
/-- something else for the index. -/
def ixS (e : E) : Sub := ⟨[], [], [], [], e⟩
theorem ixS_nix (e : E) : (ixS e).nix := fun ρ i => rfl
theorem ixS_env (ρ : Env) (e : E) : ρ.sub (ixS e) = ρ.at (e.den ρ) := rfl
theorem ixS_bt (β : Bt) (e : E) : β.sub (ixS e) = β.atx (e.den β.g.env) := rfl
theorem V.nix_imp {ρ : Env} {v : V} (h : v.nix = true) (e : E) : V.imp ρ v (v.sub (ixS e)) ∧ V.imp ρ (v.sub (ixS e)) v :=
  ⟨fun β x _ hr => (R.sub (ixS_nix e) β v x).2 (by rw [ixS_bt]; exact (R.nix v x h).2 hr), fun β x _ hr => (R.nix v x h).1 (by rw [← ixS_bt]; exact (R.sub (ixS_nix e) β v x).1 hr)⟩
theorem Row.nix_imp {ρ : Env} {r : Row} (h : r.nix = true) (e : E) : Row.imp ρ r (r.sub (ixS e)) ∧ Row.imp ρ (r.sub (ixS e)) r :=
  ⟨fun β x _ hr => (RH.sub (ixS_nix e) β r x).2 (by rw [ixS_bt]; exact (RH.nix r x h).2 hr), fun β x _ hr => (RH.nix r x h).1 (by rw [← ixS_bt]; exact (RH.sub (ixS_nix e) β r x).1 hr)⟩

/-! ### names that are there -/
section
variable {β : Bt} {n : Nat} (hn : ∀ id q, β.nm id = some q → id < n)
include hn
theorem low_of {id : Nat} {q} (h : β.nm id = some q) : Nat.blt id n = true := by have := hn id q h; simp [Nat.blt]; omega
theorem R0.low {v : V} {x : Value} (h : R0 β v x) : v.in0 (fun id => Nat.blt id n) = true := by
  cases v with
  | ptr id e z c => obtain ⟨p, hp, _⟩ := h; exact low_of hn hp
  | sl id co off len z top => obtain ⟨q, hq, _⟩ := h; exact low_of hn hq
  | _ => rfl
omit hn in
theorem F2.low {r : V → Value → Prop} {p : V → Bool} (hr : ∀ v x, r v x → p v = true) : ∀ {vs : List V} {xs : List Value}, F2 r vs xs → vs.all p = true
  | [], [], _ => rfl
  | [], _ :: _, h => h.elim
  | _ :: _, [], h => h.elim
  | v :: vs, x :: xs, h => by rw [List.all_cons, hr v x h.1, F2.low hr h.2]; rfl
theorem R1.low {v : V} {x : Value} (h : R1 β v x) : v.in1 (fun id => Nat.blt id n) = true := by
  have base : R0 β v x → v.in0 (fun id => Nat.blt id n) = true := R0.low hn
  cases v with
  | fn f a b =>
    obtain ⟨xs, ys, _, h1, h2⟩ := h
    simp only [V.in1, Bool.and_eq_true]
    exact ⟨F2.low (fun v x hx => R0.low hn hx) h1, F2.low (fun v x hx => R0.low hn hx) h2⟩
  | und => rfl
  | _ => exact base h
theorem R2.low {v : V} {x : Value} (h : R2 β v x) : v.in2 (fun id => Nat.blt id n) = true := by
  have base : R1 β v x → v.in1 (fun id => Nat.blt id n) = true := R1.low hn
  cases v with
  | agg cs => obtain ⟨xs, _, h1⟩ := h; exact F2.low (fun v x hx => R1.low hn hx) h1
  | _ => exact base h
theorem R.low {v : V} {x : Value} (h : R β v x) : v.inn (fun id => Nat.blt id n) = true := by
  have base : R2 β v x → v.in2 (fun id => Nat.blt id n) = true := R2.low hn
  cases v with
  | und => rfl
  | tup cs => obtain ⟨xs, _, h1⟩ := h; exact F2.low (fun v x hx => R2.low hn hx) h1
  | _ => exact base h
theorem RH.low {r : Row} {xs : List Value} (h : RH β r xs) : r.inn (fun id => Nat.blt id n) = true := by
  cases r with
  | any cs => exact F2.low (fun v x hx => R1.low hn hx) h
  | _ => rfl
end
/-- a round that leaves all as it was, but for the index. -/
theorem TC.again {P : Program} {ρ : Env} {nt n n' : Nat} {a : Code} {fr fr' : Fm} {σ σ' : Sto} {ds : List Nat} {i : Nat} {e : E} (h : TC P ρ n nt a fr n σ .normal fr' n' σ') (hds : ∀ t, (dsts a).contains t = true → ds.contains t = true) (hi : fr' i = .int .i64 e)
    (hσ : ∀ id o, σ id = some o → id < n → ∃ o', σ' id = some o' ∧ o'.rw = o.rw ∧ o'.e = o.e ∧ Row.imp ρ o'.row o.row) : TC P ρ n nt a fr n σ .normal (fun t => if t = i then .int .i64 e else if ds.contains t then .und else fr t) n σ := by
  intro β ac w Q hS hF hQ
  have hlow : ∀ id q, β.nm id = some q → id < n := fun id q hq => hS.lt hq
  refine h β ac w Q hS hF fun β' a' w' hS' hF' st kp => ?_
  have hall : β.all β' := ⟨st.le.g, fun id q hq => st.le.nm id q (hlow id q hq) hq⟩
  let β2 : Bt := ⟨β'.g, fun id => if Nat.blt id n then β'.nm id else none⟩
  have hnm : ∀ id, id < n → β2.nm id = β'.nm id := fun id hid => by simp only [β2]; rw [if_pos (by simp [Nat.blt]; omega)]
  have hp : ∀ id, Nat.blt id n = true → ∀ b, β'.nm id = some b → β2.nm id = some b := fun id hid b hb => by simp only [β2]; rw [if_pos hid]; exact hb
  have hlt : ∀ id o, σ id = some o → id < n := fun id o ho => by obtain ⟨q, hq, _⟩ := hS.ob id o ho; exact hlow id q hq
  have hwr : ∀ b, Wr β2 σ b → Wr β' σ' b := by
    rintro b ⟨id, o, p, h1, h2, h3, h4⟩
    obtain ⟨o', k1, k2, _⟩ := hσ id o h1 (hlt id o h1)
    exact ⟨id, o', p, k1, k2.trans h2, by rw [← hnm id (hlt id o h1)]; exact h3, h4⟩
  have hS2 : Sim ρ n β2 σ w' := by
    refine ⟨⟨hS'.env, fun id o ho => ?_, fun id o id' o' p p' e1 hr e2 hne hp1 hp2 => ?_, fun b cs hb => ?_, fun b c hb => ?_⟩, fun id hid => ?_⟩
    · obtain ⟨o', k1, k2, k3, k4⟩ := hσ id o ho (hlt id o ho)
      obtain ⟨q, l1, l2⟩ := hS'.ob id o' k1
      obtain ⟨q0, m1, m2⟩ := hS.ob id o ho
      have hin : o.row.inn (fun id => Nat.blt id n) = true := by
        cases q0 with
        | none => exact RH.low hlow (show RH β o.row [] from m2)
        | some p => obtain ⟨_, cur, xs, rest, fz, _, _, _, hx, _⟩ := m2; exact RH.low hlow hx
      refine ⟨q, (hnm id (hlt id o ho)).trans l1, ?_⟩
      cases q with
      | none => exact RH.names (β := β') (β' := β2) (Gm.le.refl _) hp (k4 β' [] hS'.env l2) hin
      | some p =>
        obtain ⟨n1, cur, xs, rest, fz, n2, n3, n4, n5, n6, n7⟩ := l2
        exact ⟨n1, cur, xs, rest, fz, by rw [← k3]; exact n2, n3, n4, RH.names (β := β') (β' := β2) (Gm.le.refl _) hp (k4 β' xs hS'.env n5) hin, fun hr => n6 (k2.trans hr), fun hr => n7 (k2.trans hr)⟩
    · obtain ⟨q1, k1, k2, _⟩ := hσ id o e1 (hlt id o e1)
      obtain ⟨q2, l1, _⟩ := hσ id' o' e2 (hlt id' o' e2)
      rw [hnm id (hlt id o e1)] at hp1
      rw [hnm id' (hlt id' o' e2)] at hp2
      exact hS'.sep id q1 id' q2 p p' k1 (k2.trans hr) l1 hne hp1 hp2
    · obtain ⟨k1, k2, k3⟩ := hS'.fzs b cs hb
      exact ⟨k1, fun hc => k2 (hwr b hc), k3⟩
    · obtain ⟨k1, k2⟩ := hS'.kvs b c hb
      exact ⟨k1, fun hc => k2 (hwr b hc)⟩
    · simp only [β2]; rw [if_neg (by simp [Nat.blt]; omega)]
  refine hQ β2 a' w' hS2 ⟨fun t => ?_, hF'.2⟩ ⟨⟨st.le.g, fun id q hid hq => (hnm id hid).trans (st.le.nm id q hid hq)⟩, st.os, st.tape, st.output, st.size, st.fr, fun b hb => st.own b (hwr b hb), st.fzn, st.kvn⟩ kp
  show R β2 (if t = i then .int .i64 e else if ds.contains t then .und else fr t) _
  split
  · rename_i ht
    have := hF'.1 t
    rw [ht, hi] at this
    rw [ht]; exact this
  · split
    · trivial
    · rename_i hd
      have hk := kp.1 t (by
        cases hx : (dsts a).contains t with
        | false => rfl
        | true => exact (hd (hds t hx)).elim)
      rw [hk]
      exact R.names (β := β') (β' := β2) (Gm.le.refl _) hp ((hF.1 t).mono hall) (R.low hlow (hF.1 t))
end Go.Proofs.YtmckhoaekbeijaaGreat.E
/- Loops that look for something, reckoned. Plain Lean over the kit's model; no program. -/
namespace Go.Proofs.YtmckhoaekbeijaaGreat.E
open Go Go.RowKit
set_option linter.unusedVariables false

/-! ### the loop's index -/
def firstOps : Code → List Oper
  | .region _ ops _ => ops.toList
  | .seq a _ => firstOps a
  | .block _ a => firstOps a
  | .loop a => firstOps a
  | _ => []
def lssOf : List Oper → Option Tmp
  | [] => none
  | o :: l => match o.op with
    | .binOp .lss _ (.tmp u) _ _ => some u
    | _ => lssOf l
def moveOf (u : Tmp) : List Oper → Tmp
  | [] => u
  | o :: l => match o.dst, o.op with
    | some d, .move (.tmp i) => if Nat.beq d u then i else moveOf u l
    | _, _ => moveOf u l
def idxOf (a : Code) : Option Tmp := match lssOf (firstOps a) with
  | some u => some (moveOf u (firstOps a))
  | none => none

/-! ### the generic round -/
def genF (f : Fm) (ds : List Nat) : List Nat → Tr V
  | [] => .nil
  | t :: ts => if ds.contains t then genF f ds ts else (genF f ds ts).put t (some (f t))
theorem genF_get (f : Fm) (ds : List Nat) (t : Nat) : ∀ ts : List Nat, fmOf (genF f ds ts) t = if ts.contains t && !ds.contains t then f t else .und
  | [] => rfl
  | u :: ts => by
    have ih := genF_get f ds t ts
    unfold genF
    split
    · rename_i hd
      rw [ih]
      by_cases e : t = u
      · subst e; simp only [hd, Bool.not_true, Bool.and_false]
      · have : (u :: ts).contains t = ts.contains t := by simp [e]
        rw [this]
    · rename_i hd
      unfold fmOf
      rw [Tr.get_put]
      by_cases e : t = u
      · subst e
        have hd : ds.contains t = false := by simpa using hd
        rw [if_pos rfl, hd]
        simp
      · rw [if_neg e]
        have : (u :: ts).contains t = ts.contains t := by simp [e]
        rw [this]; exact ih
def finF (f : Fm) (q : Sub) : List Nat → Tr V → Tr V
  | [], tr => tr
  | t :: ts, tr => (finF f q ts tr).put t (some ((f t).sub q))
theorem finF_get (f : Fm) (q : Sub) (t : Nat) (tr : Tr V) : ∀ ts : List Nat, fmOf (finF f q ts tr) t = if ts.contains t then (f t).sub q else fmOf tr t
  | [] => rfl
  | u :: ts => by
    have ih := finF_get f q t tr ts
    unfold finF
    unfold fmOf
    rw [Tr.get_put]
    by_cases e : t = u
    · subst e; rw [if_pos rfl, if_pos (by simp)]
    · rw [if_neg e]
      have : (u :: ts).contains t = ts.contains t := by simp [e]
      rw [this]; exact ih
def sameOb (o o' : Ob) : Bool := (o.rw == o'.rw) && Nat.beq o.e o'.e && o'.row.same o.row
/-- objects behind the round that leaves the loop. -/
def finO (f g : Sto) (n : Nat) (q : Sub) : List Nat → Tr Ob
  | [] => .nil
  | id :: ids => match g id with
    | none => finO f g n q ids
    | some o' => match f id with
      | some o => if Nat.blt id n && sameOb o o' then (finO f g n q ids).put id (some o) else (finO f g n q ids).put id (some (o'.sub q))
      | none => if Nat.blt id n then finO f g n q ids else (finO f g n q ids).put id (some (o'.sub q))
theorem finO_get (f g : Sto) (n : Nat) (q : Sub) : ∀ (ids : List Nat) {id : Nat} {o1 : Ob}, (finO f g n q ids).get id = some o1 → ∃ o', g id = some o' ∧ ((f id = some o1 ∧ id < n ∧ sameOb o1 o' = true) ∨ (o1 = o'.sub q ∧ (n ≤ id ∨ (f id).isSome = true)))
  | [], id, o1, h => by cases h
  | j :: ids, id, o1, h => by
    have ih := finO_get f g n q ids (id := id) (o1 := o1)
    unfold finO at h
    split at h
    · exact ih h
    · rename_i o' ho'
      split at h
      · rename_i o ho
        split at h
        · rename_i hc
          simp only [Bool.and_eq_true] at hc
          rw [Tr.get_put] at h
          split at h
          · rename_i e; subst e; cases h; exact ⟨o', ho', .inl ⟨ho, Nat.le_of_ble_eq_true hc.1, hc.2⟩⟩
          · exact ih h
        · rw [Tr.get_put] at h
          split at h
          · rename_i e; subst e; cases h; exact ⟨o', ho', .inr ⟨rfl, .inr (by rw [ho]; rfl)⟩⟩
          · exact ih h
      · split at h
        · exact ih h
        · rename_i hn
          rw [Tr.get_put] at h
          split at h
          · rename_i e; subst e; cases h
            refine ⟨o', ho', .inr ⟨rfl, .inl ?_⟩⟩
            have : ¬ id < n := fun hc => hn (Nat.ble_eq_true_of_le hc)
            omega
          · exact ih h
/-- does it go on? -/
def normB : T (Out × St) → B
  | .leaf (.normal, _) => .lit true
  | .leaf _ => .lit false
  | .br c l r => mkIteB c (normB l) (normB r)
  | .dead => .lit false
def nextE : E := .bin .add .i64 .ix (.lit 1)
/-- all is as it was, but for the index. -/
def againOk (s : St) (i : Tmp) (s' : St) : Bool := (match s'.ok with | [] => true | _ => false) && (s'.fr i).same (.int .i64 nextE) &&
  (upto s.n).all fun id => match s.σ id with
    | none => true
    | some o => match s'.σ id with
      | some o' => sameOb o o'
      | none => false
def chkN (s : St) (i : Tmp) : T (Out × St) → Bool
  | .leaf (.normal, s') => againOk s i s'
  | .leaf _ => true
  | .br _ l r => chkN s i l && chkN s i r
  | .dead => true
def noNorm : T (Out × St) → Bool
  | .leaf (.normal, _) => false
  | .leaf _ => true
  | .br _ l r => noNorm l && noNorm r
  | .dead => true
def finT (q : Sub) (ds : List Nat) (bound : B) (s : St) : T (Out × St) → Kn → T (Out × St)
  | .leaf (.normal, _), _ => .dead
  | .leaf (o, s'), kn => .leaf (o, ⟨finF s'.fr q ds s.tr, s'.n, finO s.σ s'.σ s.n q (upto s'.n), addOk kn (bound :: s'.ok.map (·.sub q)) s.ok, kn⟩)
  | .br c l r, kn => ask (c.sub q) kn fun t kn => bif t then finT q ds bound s l kn else finT q ds bound s r kn
  | .dead, _ => .dead
def genSt (s : St) (ds : List Nat) (nt : Nat) (i : Tmp) : St := ⟨(genF s.fr ds (upto nt)).put i (some (.int .i64 .ix)), s.n, s.ob, [], (.lt .ix (.lit 0), false) :: s.kn.filter fun x => x.1.nix⟩
/-- nothing but going on. -/
def onlyN : T (Out × St) → Bool
  | .leaf (.normal, _) => true
  | .leaf _ => false
  | .br _ l r => onlyN l && onlyN r
  | .dead => false
/-- without the ends that go on. -/
def prune : T (Out × St) → T (Out × St)
  | .br c l r => bif onlyN l then prune r else bif onlyN r then prune l else .br c (prune l) (prune r)
  | t => t
def outs (mg : Nat) (lv : List Nat) (nt n : Nat) (kn : Kn) (l : T (Out × St)) : T (Out × St) := bif onM mg then mergeT (mkEnd nt n lv kn) (prune l) else l
def autoL (mg : Nat) (lv : List Nat) (run : St → T (Out × St)) (a : Code) (nt : Nat) (s : St) : Option (T (Out × St)) := match idxOf a with
  | none => none
  | some i => match s.fr i with
    | .int .i64 (.lit (.ofNat 0)) =>
      let ds := addNew (dsts a) []
      if ds.contains i && (upto nt).all (fun t => ds.contains t || (s.fr t).nix) && (upto s.n).all (fun id => match s.σ id with | some o => o.row.nix | none => true) then
        match run (genSt s ds nt i) with
        | .br (.lt .ix N) l r => if N.nix && noNorm r && chkN s i l then
            let q := ixS (.find N (mkNot (normB l)))
            some (finT q ds (mkNot (mkLt (.lit 9223372036854775807) N)) s (.br (.lt .ix N) (outs mg lv nt s.n (genSt s ds nt i).kn l) r) s.kn)
          else none
        | _ => none
      else none
    | _ => none

theorem findI_spec (p : Nat → Bool) : ∀ (k j : Nat), (∀ i, j ≤ i → i < findI p k j → p i = false) ∧ (findI p k j < j + k → p (findI p k j) = true) ∧ findI p k j ≤ j + k ∧ j ≤ findI p k j
  | 0, j => ⟨fun i h1 h2 => by unfold findI at h2; omega, fun h => by unfold findI at h; omega, Nat.le_refl _, Nat.le_refl _⟩
  | k + 1, j => by
    obtain ⟨h1, h2, h3, h4⟩ := findI_spec p k (j + 1)
    unfold findI
    cases hp : p j with
    | true => rw [cond_true]; exact ⟨fun i h1 h2 => by omega, fun _ => hp, by omega, Nat.le_refl _⟩
    | false =>
      rw [cond_false]
      refine ⟨fun i k1 k2 => ?_, fun h => h2 (by omega), by omega, by omega⟩
      by_cases e : i = j
      · rw [e]; exact hp
      · exact h1 i (by omega) k2
theorem normB_den {ρ : Env} : ∀ {t : T (Out × St)}, (normB t).den ρ = true ↔ ∃ s, t.pick ρ = some (.normal, s)
  | .leaf (.normal, s) => ⟨fun _ => ⟨s, rfl⟩, fun _ => rfl⟩
  | .leaf (.exit i, s) => ⟨fun h => (by cases h), fun ⟨s', h⟩ => (by cases h)⟩
  | .leaf (.ret, s) => ⟨fun h => (by cases h), fun ⟨s', h⟩ => (by cases h)⟩
  | .br c l r => by
    simp only [normB, mkIteB_den, T.pick]
    cases c.den ρ with
    | true => exact normB_den
    | false => exact normB_den
  | .dead => ⟨fun h => (by cases h), fun ⟨s', h⟩ => (by cases h)⟩
theorem chkN_ok {ρ : Env} {s : St} {i : Tmp} : ∀ {t : T (Out × St)} {s' : St}, chkN s i t = true → t.pick ρ = some (.normal, s') → againOk s i s' = true
  | .leaf (.normal, s1), s', h, hp => by cases hp; exact h
  | .leaf (.exit i, s1), s', h, hp => by cases hp
  | .leaf (.ret, s1), s', h, hp => by cases hp
  | .br c l r, s', h, hp => by
    simp only [chkN, Bool.and_eq_true] at h
    simp only [T.pick] at hp
    cases hc : c.den ρ with
    | true => rw [hc] at hp; exact chkN_ok h.1 hp
    | false => rw [hc] at hp; exact chkN_ok h.2 hp
  | .dead, s', h, hp => by cases hp
theorem noNorm_ok {ρ : Env} : ∀ {t : T (Out × St)} {s' : St}, noNorm t = true → t.pick ρ ≠ some (.normal, s')
  | .leaf (.normal, s1), s', h, hp => by cases h
  | .leaf (.exit i, s1), s', h, hp => by cases hp
  | .leaf (.ret, s1), s', h, hp => by cases hp
  | .br c l r, s', h, hp => by
    simp only [noNorm, Bool.and_eq_true] at h
    simp only [T.pick] at hp
    cases hc : c.den ρ with
    | true => rw [hc] at hp; exact noNorm_ok h.1 hp
    | false => rw [hc] at hp; exact noNorm_ok h.2 hp
  | .dead, s', h, hp => by cases hp
theorem finT_ok {ρ : Env} {q : Sub} (hq : q.nix) {ds : List Nat} {bound : B} {s : St} : ∀ {t : T (Out × St)} {kn : Kn} {o : Out} {z : St}, knOk ρ kn → (finT q ds bound s t kn).pick ρ = some (o, z) →
    ∃ s' kn', knOk ρ kn' ∧ t.pick (ρ.sub q) = some (o, s') ∧ o ≠ .normal ∧ z = ⟨finF s'.fr q ds s.tr, s'.n, finO s.σ s'.σ s.n q (upto s'.n), addOk kn' (bound :: s'.ok.map (·.sub q)) s.ok, kn'⟩
  | .leaf (.normal, s1), kn, o, z, hk, h => by cases h
  | .leaf (.exit i, s1), kn, o, z, hk, h => by
    simp only [finT, T.pick, Option.some.injEq, Prod.mk.injEq] at h
    obtain ⟨rfl, rfl⟩ := h
    exact ⟨s1, kn, hk, rfl, by simp, rfl⟩
  | .leaf (.ret, s1), kn, o, z, hk, h => by
    simp only [finT, T.pick, Option.some.injEq, Prod.mk.injEq] at h
    obtain ⟨rfl, rfl⟩ := h
    exact ⟨s1, kn, hk, rfl, by simp, rfl⟩
  | .br c l r, kn, o, z, hk, h => by
    unfold finT at h
    obtain ⟨kn1, h1, h2⟩ := ask_ok (c.sub q) (k := fun t kn => bif t then finT q ds bound s l kn else finT q ds bound s r kn) hk
    rw [h2, B.sub_den hq] at h
    simp only [T.pick]
    cases hc : c.den (ρ.sub q) with
    | true => rw [hc] at h; exact finT_ok hq h1 h
    | false => rw [hc] at h; exact finT_ok hq h1 h
  | .dead, kn, o, z, hk, h => by cases h
theorem upto_mem : ∀ {n t : Nat}, (upto n).contains t = true ↔ t < n
  | 0, t => by simp [upto]
  | n + 1, t => by
    simp only [upto, List.contains_cons, Bool.or_eq_true, upto_mem, beq_iff_eq]; omega
theorem upto_all {p : Nat → Bool} {n : Nat} (h : (upto n).all p = true) {t : Nat} (ht : t < n) : p t = true :=
  List.all_eq_true.1 h t (by have := upto_mem.2 ht; simpa using this)

theorem onlyN_ok {ρ : Env} : ∀ {t : T (Out × St)}, onlyN t = true → (normB t).den ρ = true
  | .leaf (.normal, _), _ => rfl
  | .leaf (.exit i, s1), h => by cases h
  | .leaf (.ret, s1), h => by cases h
  | .br c l r, h => by
    simp only [onlyN, Bool.and_eq_true] at h
    simp only [normB, mkIteB_den, onlyN_ok h.1, onlyN_ok h.2]
    cases c.den ρ <;> rfl
  | .dead, h => by cases h
theorem prune_ok {ρ : Env} : ∀ {t : T (Out × St)} {a : Out × St}, (normB t).den ρ = false → (prune t).pick ρ = some a → t.pick ρ = some a
  | .leaf _, a, _, h => h
  | .dead, a, _, h => h
  | .br c l r, a, hb, h => by
    have il := fun h1 h2 => prune_ok (ρ := ρ) (t := l) (a := a) h1 h2
    have ir := fun h1 h2 => prune_ok (ρ := ρ) (t := r) (a := a) h1 h2
    simp only [normB, mkIteB_den] at hb
    unfold prune at h
    simp only [T.pick]
    cases hc : c.den ρ with
    | true =>
      rw [hc] at hb
      simp only [cond_true] at hb
      cases h1 : onlyN l with
      | true => rw [onlyN_ok h1] at hb; cases hb
      | false =>
        rw [h1, cond_false] at h
        cases h2 : onlyN r with
        | true => rw [h2, cond_true] at h; exact il hb h
        | false => rw [h2, cond_false] at h; simp only [T.pick, hc, cond_true] at h; exact il hb h
    | false =>
      rw [hc] at hb
      simp only [cond_false] at hb
      cases h1 : onlyN l with
      | true => rw [h1, cond_true] at h; exact ir hb h
      | false =>
        rw [h1, cond_false] at h
        cases h2 : onlyN r with
        | true => rw [onlyN_ok h2] at hb; cases hb
        | false => rw [h2, cond_false] at h; simp only [T.pick, hc, cond_false] at h; exact ir hb h
theorem outs_ok {ρ : Env} {mg : Nat} {lv : List Nat} {nt n : Nat} {kn : Kn} (hkn : knOk ρ kn) {l : T (Out × St)} {q : Out × St} (hb : (normB l).den ρ = false) (h : (outs mg lv nt n kn l).pick ρ = some q) : ∃ q0, l.pick ρ = some q0 ∧ EndLe ρ q0 q := by
  unfold outs at h
  cases hmg : onM mg with
  | false => rw [hmg] at h; exact ⟨q, h, rfl, St.le.refl _ _⟩
  | true =>
    rw [hmg, cond_true] at h
    obtain ⟨q0, h1, h2⟩ := mergeT_ok (r := EndLe ρ) (fun a => ⟨rfl, St.le.refl _ _⟩) (fun a b c h k => ⟨h.1.trans k.1, h.2.trans k.2⟩) (mkEnd_ok hkn) h
    exact ⟨q0, prune_ok hb h1, h2⟩
theorem autoL_ok {P : Program} {ρ : Env} {mg : Nat} {lv : List Nat} {run : St → T (Out × St)} {a : Code} {nt e : Nat} (hrun : ∀ (ρ' : Env) (g : St) (o : Out) (s' : St), knOk ρ' g.kn → (run g).pick ρ' = some (o, s') → g.n ≤ s'.n ∧ (okOk ρ' s'.ok → TC P ρ' g.n nt a g.fr g.n g.σ o s'.fr s'.n s'.σ))
    {s : St} {t : T (Out × St)} {o : Out} {z : St} (h : autoL mg lv run a nt s = some t) (he : e ≤ s.n) (hk : knOk ρ s.kn) (hp : t.pick ρ = some (o, z)) :
    knOk ρ z.kn ∧ e ≤ z.n ∧ (okOk ρ z.ok → okOk ρ s.ok ∧ ∃ k, TR P ρ e nt a k s.fr s.n s.σ o z.fr z.n z.σ) := by
  unfold autoL at h
  split at h
  · cases h
  · rename_i i hi
    split at h
    · rename_i hf
      simp only at h
      generalize hds : addNew (dsts a) [] = ds at h
      have hdm : ∀ t, (dsts a).contains t = true → ds.contains t = true := fun t ht => by rw [← hds, addNew_mem, ht]; rfl
      split at h
      · rename_i hc
        simp only [Bool.and_eq_true] at hc
        obtain ⟨⟨hci, hcf⟩, hco⟩ := hc
        generalize hG : genSt s ds nt i = G at h
        split at h
        · rename_i N l r hrn
          split at h
          · rename_i hc2
            simp only [Bool.and_eq_true] at hc2
            obtain ⟨⟨hN, hr⟩, hl⟩ := hc2
            cases h
            generalize hF : E.find N (mkNot (normB l)) = F at hp
            have hqn := ixS_nix F
            obtain ⟨s', kn', k1, k2, k3, k4⟩ := finT_ok hqn hk hp
            have hGn : G.n = s.n := by rw [← hG]; rfl
            have hGσ : G.σ = s.σ := by rw [← hG]; rfl
            have hGi : G.fr i = .int .i64 .ix := by rw [← hG]; simp [genSt, St.fr, fmOf, Tr.get_put]
            have hGf : ∀ t, t ≠ i → G.fr t = if (upto nt).contains t && !ds.contains t then s.fr t else .und := by
              intro t ht
              rw [← hG]
              have := genF_get s.fr ds t (upto nt)
              simp only [genSt, St.fr, fmOf, Tr.get_put, if_neg ht] at this ⊢
              exact this
            -- what is known at any index from 0 on
            have hkG : ∀ j : Nat, knOk (ρ.at j) G.kn := by
              intro j x hx
              rw [← hG] at hx
              simp only [genSt, List.mem_cons, List.mem_filter] at hx
              rcases hx with rfl | ⟨hx, hn⟩
              · show ltb (j : Int) 0 = false
                rw [ltb_eq]; simp
              · rw [B.nix_den ρ j x.1 hn]; exact hk x hx
            have hm0 : ∃ m : Nat, F.den ρ = (m : Int) ∧ (∀ j : Nat, j < m → ltb (j : Int) (N.den ρ) = true ∧ (normB l).den (ρ.at j) = true) ∧ (ltb (m : Int) (N.den ρ) = true → (normB l).den (ρ.at m) = false) := by
              refine ⟨findI (fun i => (mkNot (normB l)).den (ρ.at i)) (N.den ρ).toNat 0, by rw [← hF]; rfl, fun j hj => ?_, fun hlt => ?_⟩ <;>
              obtain ⟨f1, f2, f3, _⟩ := findI_spec (fun i => (mkNot (normB l)).den (ρ.at (i : Nat))) (N.den ρ).toNat 0
              rotate_left
              · have := f2 (by rw [ltb_eq] at hlt; simp only [decide_eq_true_eq] at hlt; omega)
                simpa only [mkNot_den, Bool.not_eq_true'] using this
              have := f1 j (Nat.zero_le _) hj
              simp only [mkNot_den, Bool.not_eq_false'] at this
              refine ⟨?_, this⟩
              rw [ltb_eq]; simp; omega
            obtain ⟨m, hm, hmj, hmN⟩ := hm0
            have henv : ρ.sub (ixS F) = ρ.at m := by rw [ixS_env, hm]
            rw [henv] at k2
            have hrunm : G.n ≤ s'.n ∧ (okOk (ρ.at m) s'.ok → TC P (ρ.at m) G.n nt a G.fr G.n G.σ o s'.fr s'.n s'.σ) := by
              have hq0 : ∃ q0, (T.br (.lt .ix N) l r).pick (ρ.at m) = some q0 ∧ EndLe (ρ.at m) q0 (o, s') := by
                simp only [T.pick] at k2 ⊢
                cases hc : (B.lt .ix N).den (ρ.at m) with
                | true =>
                  rw [hc] at k2
                  have hb : (normB l).den (ρ.at m) = false := hmN (by
                    have : ltb (m : Int) (N.den (ρ.at m)) = true := hc
                    rwa [E.nix_den ρ m N hN] at this)
                  exact outs_ok (hkG m) hb k2
                | false => rw [hc] at k2; exact ⟨_, k2, rfl, St.le.refl _ _⟩
              obtain ⟨q0, l1, l2⟩ := hq0
              obtain ⟨u1, u2⟩ := hrun (ρ.at m) G q0.1 q0.2 (hkG m) (by rw [hrn]; exact l1)
              refine ⟨Nat.le_trans u1 l2.2.n, fun hok => ?_⟩
              exact TC.up (b := (o, s')) (u2 (l2.2.ok hok)) l2
            subst k4
            refine ⟨k1, by have := hrunm.1; rw [hGn] at this; show e ≤ s'.n; omega, fun hok => ?_⟩
            obtain ⟨g1, g2⟩ := addOk_ok k1 hok
            refine ⟨g2, ?_⟩
            have hb : N.den ρ ≤ 9223372036854775807 := by
              have := g1 _ (List.mem_cons_self ..)
              rw [mkNot_den, mkLt_den, ltb_eq] at this
              simp only [Bool.not_eq_true'] at this
              have := of_decide_eq_false this
              simp only [E.den] at this
              omega
            have hoks' : okOk (ρ.at m) s'.ok := fun b hb' => by
              rw [← henv, ← B.sub_den hqn]
              exact g1 _ (List.mem_cons_of_mem _ (List.mem_map.2 ⟨b, hb', rfl⟩))
            -- slots at the head, the index being j
            let S : Nat → Fm := fun j t => if t = i then .int .i64 (.lit (j : Int)) else if ds.contains t then .und else s.fr t
            have impG : ∀ (j : Nat) (q : E), q.den ρ = (j : Int) → ∀ t, V.imp ρ (S j t) ((G.fr t).sub (ixS q)) := by
              intro j q hq t
              by_cases ht : t = i
              · rw [ht, hGi]
                show V.imp ρ (if i = i then .int .i64 (.lit (j : Int)) else _) ((V.int .i64 E.ix).sub (ixS q))
                rw [if_pos rfl]
                simp only [V.sub, E.sub]
                exact V.imp.int (by rw [show (ixS q).i = q from rfl, hq]; rfl)
              · rw [hGf t ht]
                show V.imp ρ (if t = i then _ else if ds.contains t then V.und else s.fr t) _
                rw [if_neg ht]
                cases hd : ds.contains t with
                | true => rw [if_pos rfl, if_neg (by simp)]; simp only [V.sub]; exact V.imp.und _ _
                | false =>
                  rw [if_neg (by simp)]
                  cases hu : (upto nt).contains t with
                  | false => rw [if_neg (by simp)]; simp only [V.sub]; exact V.imp.und _ _
                  | true =>
                    rw [if_pos (by rfl)]
                    have := upto_all hcf (upto_mem.1 hu)
                    rw [hd, Bool.false_or] at this
                    exact (V.nix_imp this q).1
            have stoG : ∀ (q : E) (β : Bt) (w : World), Sim ρ s.n β s.σ w → Sto.imp ρ s.σ (s.σ.sub (ixS q)) := by
              intro q β w hS id o' ho'
              obtain ⟨o1, ho1, rfl⟩ := Sto.sub_some ho'
              have hlt : id < s.n := by obtain ⟨q', hq', _⟩ := hS.ob id o1 ho1; exact hS.lt hq'
              have := upto_all hco hlt
              rw [ho1] at this
              exact ⟨o1, ho1, rfl, rfl, (Row.nix_imp this q).1⟩
            -- one round that goes on
            have go : ∀ j : Nat, j < m → TC P ρ s.n nt a (S j) s.n s.σ .normal (S (j + 1)) s.n s.σ := by
              intro j hj
              obtain ⟨hjN, hjn⟩ := hmj j hj
              obtain ⟨s1, hs1⟩ := normB_den.1 hjn
              have hpk : (run G).pick (ρ.at j) = some (.normal, s1) := by
                rw [hrn]
                have e1 : (B.lt .ix N).den (ρ.at j) = true := by
                  show ltb (j : Int) (N.den (ρ.at j)) = true
                  rw [E.nix_den ρ j N hN]; exact hjN
                simp only [T.pick, e1, cond_true]
                exact hs1
              have hag := chkN_ok hl hs1
              simp only [againOk, Bool.and_eq_true] at hag
              obtain ⟨⟨a1, a2⟩, a3⟩ := hag
              have hok1 : okOk (ρ.at j) s1.ok := by
                cases hz : s1.ok with
                | nil => exact fun _ hb => by cases hb
                | cons b l => rw [hz] at a1; cases a1
              obtain ⟨h1, h2⟩ := hrun (ρ.at j) G .normal s1 (hkG j) hpk
              have hTC := h2 hok1
              have henvj : ρ.sub (ixS (.lit j)) = ρ.at j := rfl
              rw [← henvj] at hTC
              have hTC := hTC.sub (ixS_nix _)
              rw [hGn, hGσ] at hTC
              intro β ac w Q hS hFr hQ
              have hlt : ∀ id o, s.σ id = some o → id < s.n := fun id o ho => by obtain ⟨q', hq', _⟩ := hS.ob id o ho; exact hS.lt hq'
              have hTC2 : TC P ρ s.n nt a (S j) s.n s.σ .normal (Fm.sub s1.fr (ixS (.lit j))) s1.n (s1.σ.sub (ixS (.lit j))) := hTC.imp (fun t => impG j (.lit j) rfl t) (stoG (.lit j) β w hS) (Fm.imp.refl ρ _) (Sto.imp.refl ρ _)
              have hnext : V.imp ρ (.int .i64 (nextE.sub (ixS (.lit j)))) (.int .i64 (.lit ((j + 1 : Nat) : Int))) := by
                refine V.imp.int ?_
                rw [E.sub_den (ixS_nix _), henvj]
                show IntKind.i64.wrap ((j : Int) + 1) = ((j + 1 : Nat) : Int)
                have hj' : (j : Int) < N.den ρ := by rw [ltb_eq] at hjN; simpa using hjN
                refine (wrap_id .i64 _ ?_ ?_).trans (by simp)
                · show (-9223372036854775808 : Int) ≤ _; omega
                · show _ ≤ (9223372036854775807 : Int); omega
              have hsi : Fm.sub s1.fr (ixS (.lit j)) i = .int .i64 (nextE.sub (ixS (.lit j))) := by
                unfold Fm.sub
                rw [V.same_ok a2]; simp only [V.sub]
              have hag2 := TC.again hTC2 hdm hsi (fun id o ho hid => by
                have := upto_all a3 hid
                rw [ho] at this
                simp only at this
                split at this
                · rename_i o' ho'
                  simp only [sameOb, Bool.and_eq_true, beq_iff_eq] at this
                  refine ⟨o'.sub (ixS (.lit j)), Sto.sub_mk ho', this.1.1.symm, (Nat.eq_of_beq_eq_true this.1.2).symm, ?_⟩
                  have hrs := Row.same_ok this.2
                  show Row.imp ρ (o'.row.sub (ixS (.lit j))) o.row
                  rw [hrs]
                  have hnx := upto_all hco hid
                  rw [ho] at hnx
                  exact (Row.nix_imp hnx (.lit j)).2
                · cases this)
              refine hag2 β ac w Q hS hFr fun β' a' w' hS' hF' st kp => hQ β' a' w' hS' (hF'.imp hS'.env fun t => ?_) st kp
              show V.imp ρ (if t = i then _ else if ds.contains t then V.und else S j t) (S (j + 1) t)
              by_cases ht : t = i
              · simp only [if_pos ht, S]; exact hnext
              · simp only [if_neg ht, S]
                split <;> exact V.imp.refl _ _
            -- the round that leaves
            have out : ∃ k, TR P ρ s.n nt a k (S m) s.n s.σ o (fmOf (finF s'.fr (ixS F) ds s.tr)) s'.n (finO s.σ s'.σ s.n (ixS F) (upto s'.n)).get := by
              refine ⟨1, ?_⟩
              have hTC := hrunm.2 hoks'
              rw [← henv] at hTC
              have hTC := hTC.sub hqn
              rw [hGn, hGσ] at hTC
              have hTR := TR.out (k := 0) hTC k3
              intro β ac w Q hS hFr hQ
              refine TR.frame hTR (Nat.le_refl _) (fun t => impG m F hm t) (stoG F β w hS) (fun t => ?_) (fun id o1 ho1 => ?_) (τ' := fun id => match s'.σ id with | some o' => if (Nat.ble s.n id || (s.σ id).isSome) then some (o'.sub (ixS F)) else none | none => none) (gr' := fmOf (finF s'.fr (ixS F) ds s.tr)) β ac w Q hS hFr fun β' a' w' hS' hF' st kp => ?_
              · rw [finF_get]
                cases hd : ds.contains t with
                | true => left; rw [if_pos rfl]; exact V.imp.refl _ _
                | false =>
                  right
                  rw [if_neg (by simp)]
                  refine ⟨?_, ?_⟩
                  · cases hx : (dsts a).contains t with
                    | false => rfl
                    | true => rw [hdm t hx] at hd; cases hd
                  · have hti : t ≠ i := by rintro rfl; rw [hci] at hd; cases hd
                    show _ = (if t = i then _ else if ds.contains t then V.und else s.fr t)
                    rw [if_neg hti, if_neg (by rw [hd]; simp)]
                    rfl
              · split at ho1
                · rename_i o' ho'
                  split at ho1
                  · rename_i hc'
                    cases ho1
                    left
                    refine ⟨Sto.sub_mk ho', ?_⟩
                    rcases (Bool.or_eq_true _ _).mp hc' with h1 | h1
                    · exact .inl (Nat.le_of_ble_eq_true h1)
                    · right
                      unfold Sto.sub
                      cases hz : s.σ id with
                      | some _ => rfl
                      | none => rw [hz] at h1; cases h1
                  · cases ho1
                · cases ho1
              · have himp : Sto.imp ρ (fun id => match s'.σ id with | some o' => if (Nat.ble s.n id || (s.σ id).isSome) then some (o'.sub (ixS F)) else none | none => none) (finO s.σ s'.σ s.n (ixS F) (upto s'.n)).get := by
                  intro id o1 ho1
                  obtain ⟨o', h1, h2⟩ := finO_get s.σ s'.σ s.n (ixS F) (upto s'.n) ho1
                  rcases h2 with ⟨h2, h3, h4⟩ | ⟨rfl, h2⟩
                  · simp only [sameOb, Bool.and_eq_true, beq_iff_eq] at h4
                    refine ⟨o'.sub (ixS F), ?_, h4.1.1.symm, (Nat.eq_of_beq_eq_true h4.1.2).symm, ?_⟩
                    · simp only [h1]; rw [if_pos (by rw [h2]; simp)]
                    · have hrs := Row.same_ok h4.2
                      show Row.imp ρ (o'.row.sub (ixS F)) o1.row
                      rw [hrs]
                      have hnx := upto_all hco h3
                      rw [h2] at hnx
                      exact (Row.nix_imp hnx F).2
                  · refine ⟨o'.sub (ixS F), ?_, rfl, rfl, Row.imp.refl _ _⟩
                    simp only [h1]
                    rw [if_pos]
                    rcases h2 with h2 | h2
                    · simp [h2]
                    · rw [h2]; simp
                exact hQ β' a' w' (hS'.imp himp) hF' (st.impEnd himp) kp
            -- all of them
            have all : ∀ d j : Nat, j + d = m → ∃ k, TR P ρ s.n nt a k (S j) s.n s.σ o (fmOf (finF s'.fr (ixS F) ds s.tr)) s'.n (finO s.σ s'.σ s.n (ixS F) (upto s'.n)).get := by
              intro d
              induction d with
              | zero => intro j hj; have : j = m := by omega
                        subst this; exact out
              | succ d ih =>
                intro j hj
                obtain ⟨k, hk'⟩ := ih (j + 1) (by omega)
                exact ⟨k + 1, TR.more (go j (by omega)) hk'⟩
            obtain ⟨k, hTR⟩ := all m 0 (by omega)
            refine ⟨k, ?_⟩
            have hst : Fm.imp ρ s.fr (S 0) := by
              intro t
              by_cases ht : t = i
              · rw [ht]; simp only [S, if_true]; rw [hf]; exact V.imp.refl _ _
              · simp only [S, if_neg ht]
                split
                · exact V.imp.und _ _
                · exact V.imp.refl _ _
            have h3 := hTR.imp hst (Sto.imp.refl ρ _) (Fm.imp.refl ρ _) (Sto.imp.refl ρ _)
            exact fun β ac w Q hS hFr hQ => h3 β ac w Q hS hFr fun β' a' w' hS' hF' st kp => hQ β' a' w' hS' hF' (st.weaken he) kp
          · cases h
        · cases h
      · cases h
    · cases h
end Go.Proofs.YtmckhoaekbeijaaGreat.E
/- Code and functions, reckoned. Plain Lean over the kit's model; no program. -/
namespace Go.Proofs.YtmckhoaekbeijaaGreat.E
open Go Go.RowKit
set_option linter.unusedVariables false

/-- the first region of a piece of code: the name of a loop. -/
def regId : Code → Option Nat
  | .region id _ _ => some id
  | .seq a b => match regId a with
    | some i => some i
    | none => regId b
  | .block _ a => regId a
  | .loop a => regId a
  | .cond _ a b => match regId a with
    | some i => some i
    | none => regId b
  | _ => none
/-- the bodies of all loops. -/
def loopsIn : Code → List Code
  | .loop a => a :: loopsIn a
  | .seq a b => loopsIn a ++ loopsIn b
  | .block _ a => loopsIn a
  | .cond _ a b => loopsIn a ++ loopsIn b
  | _ => []
def bodyLoops (fn : Func) : List Code := match fn.body with
  | some c => loopsIn c
  | none => []

/-- what loops do, by their names. -/
abbrev LT := Nat → St → Option (T (Out × St))
def noLoops : LT := fun _ _ => none
def LTOk (P : Program) (ρ : Env) (nt : Nat) (S : List Code) (lp : LT) : Prop := ∀ a, a ∈ S → ∀ id, regId a = some id → ∀ s t e o s', lp id s = some t → e ≤ s.n → knOk ρ s.kn → t.pick ρ = some (o, s') →
  knOk ρ s'.kn ∧ e ≤ s'.n ∧ (okOk ρ s'.ok → (∃ k, TR P ρ e nt a k s.fr s.n s.σ o s'.fr s'.n s'.σ) ∧ okOk ρ s.ok)
theorem noLoops_ok (P : Program) (ρ : Env) (nt : Nat) (S : List Code) : LTOk P ρ nt S noLoops := fun _ _ _ _ _ _ _ _ _ h => by cases h

/-- ends made one, where that is wished. -/
def mrg (mg : Nat) (nt n0 : Nat) (lv : List Nat) (kn : Kn) (t : T (Out × St)) : T (Out × St) := bif onM mg then (bif Nat.ble 2 mg then mergeW (mkEnd nt n0 lv kn) normE (mergeT (mkEnd nt n0 lv kn) t) else mergeT (mkEnd nt n0 lv kn) t) else t
theorem mrg_ok {ρ : Env} {mg : Nat} {nt n0 : Nat} {lv : List Nat} {kn : Kn} (hkn : knOk ρ kn) {t : T (Out × St)} {q : Out × St} (h : (mrg mg nt n0 lv kn t).pick ρ = some q) : ∃ q0, t.pick ρ = some q0 ∧ EndLe ρ q0 q := by
  unfold mrg at h
  cases hmg : onM mg with
  | false => rw [hmg] at h; exact ⟨q, h, rfl, St.le.refl _ _⟩
  | true =>
    rw [hmg, cond_true] at h
    have hr : ∀ a : Out × St, EndLe ρ a a := fun a => ⟨rfl, St.le.refl _ _⟩
    have ht : ∀ a b c : Out × St, EndLe ρ a b → EndLe ρ b c → EndLe ρ a c := fun a b c h k => ⟨h.1.trans k.1, h.2.trans k.2⟩
    cases h2 : Nat.ble 2 mg with
    | false => rw [h2, cond_false] at h; exact mergeT_ok hr ht (mkEnd_ok hkn) h
    | true =>
    rw [h2, cond_true] at h
    obtain ⟨a, h1, h2⟩ := mergeW_ok hr ht (mkEnd_ok hkn) h
    obtain ⟨a', h3, h4⟩ := mergeT_ok hr ht (mkEnd_ok hkn) h1
    exact ⟨a', h3, ht _ _ _ h4 h2⟩
/-- slots that are looked at in several places. -/
def noteT (r : Nat) : List Nat → Tr Nat × List Nat → Tr Nat × List Nat
  | [], m => m
  | t :: l, m => match m.1.get t with
    | none => noteT r l (m.1.put t (some r), m.2)
    | some r' => if Nat.beq r r' then noteT r l m else noteT r l (m.1, t :: m.2)
def tmpsOf : List Operand → List Nat
  | [] => []
  | .tmp t :: l => t :: tmpsOf l
  | _ :: l => tmpsOf l
def opTmps : List Oper → List Nat
  | [] => []
  | o :: l => (match o.dst with | some d => [d] | none => []) ++ tmpsOf o.op.operands.toList ++ opTmps l
def liveC : Code → Nat × Tr Nat × List Nat → Nat × Tr Nat × List Nat
  | .region id ops _, m => (id, noteT id (opTmps ops.toList) m.2)
  | .seq a b, m => liveC b (liveC a m)
  | .cond x a b, m => liveC b (liveC a (m.1, noteT m.1 (tmpsOf [x]) m.2))
  | .block _ a, m => liveC a m
  | .loop a, m => liveC a m
  | _, m => m
def resTmps : List ResultVar → List Nat
  | [] => []
  | .tmp t :: l => t :: resTmps l
  | .cell a _ :: l => a :: resTmps l
def liveOf (fn : Func) (c : Code) : List Nat := resTmps fn.results.toList ++ (liveC c (0, .nil, [])).2.2
/-- is a loop's test plain? -/
def headOfLoop : Code → Option (Code × Operand)
  | .seq (.region id ops d) (.seq (.cond x _ _) _) => some (.region id ops d, x)
  | .seq (.seq (.region id ops d) (.cond x _ _)) _ => some (.region id ops d, x)
  | .seq (.region id ops d) (.cond x _ _) => some (.region id ops d, x)
  | _ => none
def plainHead (run : Code → T (Out × St)) (a : Code) : Bool := match headOfLoop a with
  | none => true
  | some (r, x) => match run r with
    | .leaf (.normal, s) => match opd s.fr x with
      | .bool (.lit _) => true
      | _ => false
    | _ => false
def noDead : T (Out × St) → Bool
  | .leaf _ => true
  | .br _ l r => noDead l && noDead r
  | .dead => false
def loopT (mg : Nat) (lv : List Nat) (run : Code → St → T (Out × St)) (a : Code) (nt : Nat) (s : St) : Option (T (Out × St)) :=
  if plainHead (fun c => run c s) a then none else match autoL mg lv (fun s => run a s) a nt s with
    | some t => some t
    | none => some .dead

def dcode (P : Program) (ct : CT) (lp : LT) (nt : Nat) (mg : Nat) (lv : List Nat) : Nat → Code → St → T (Out × St)
  | 0, _, _ => .dead
  | k + 1, c, s =>
    match c with
    | .skip => .leaf (.normal, s)
    | .ret => .leaf (.ret, s)
    | .exit id => .leaf (.exit id, s)
    | .region _ ops false => mrg mg nt s.n lv s.kn ((dops P ct nt ops ops.toList s).bind fun s' => .leaf (.normal, s'))
    | .region _ ops true => (drec P ct nt ops ops.toList s).bind fun q => if regChk ops (lx q.1 q.2) then .leaf (.normal, q.2) else .dead
    | .seq a b => (dcode P ct lp nt mg lv k a s).bind fun q => match q.1 with
      | .normal => dcode P ct lp nt mg lv k b q.2
      | o => .leaf (o, q.2)
    | .cond x a b => match opd s.fr x with
      | .bool c => mrg mg nt s.n lv s.kn (ask c s.kn fun t kn => bif t then dcode P ct lp nt mg lv k a { s with kn := kn } else dcode P ct lp nt mg lv k b { s with kn := kn })
      | _ => .dead
    | .block id a => (dcode P ct lp nt mg lv k a s).bind fun q => match q.1 with
      | .exit j => if Nat.beq j id then .leaf (.normal, q.2) else .leaf (.exit j, q.2)
      | o => .leaf (o, q.2)
    | .loop a => match (match regId a with | some id => lp id s | none => none) with
      | some t => t
      | none => match loopT mg lv (fun c s => dcode P ct lp nt mg lv k c s) a nt s with
        | some t => t
        | none => (dcode P ct lp nt mg lv k a s).bind fun q => match q.1 with
          | .normal => dcode P ct lp nt mg lv k (.loop a) q.2
          | o => .leaf (o, q.2)
    | _ => .dead

theorem dcode_ok {P : Program} (hm : P.follows .mixedOrders = true) {ct : CT} (hct : ∀ ρ, CTOk P ρ ct) {lp : LT} {nt : Nat} {mg : Nat} {lv : List Nat} {S : List Code} (hlp : ∀ ρ, LTOk P ρ nt S lp) : ∀ (k : Nat) (ρ : Env) (e : Nat) (c : Code) (s : St) (o : Out) (s' : St), (∀ a, a ∈ loopsIn c → a ∈ S) → e ≤ s.n → knOk ρ s.kn → (dcode P ct lp nt mg lv k c s).pick ρ = some (o, s') →
    knOk ρ s'.kn ∧ e ≤ s'.n ∧ (okOk ρ s'.ok → TC P ρ e nt c s.fr s.n s.σ o s'.fr s'.n s'.σ ∧ okOk ρ s.ok ∧ (∀ a, c = .loop a → ∃ j, TR P ρ e nt a j s.fr s.n s.σ o s'.fr s'.n s'.σ))
  | 0, ρ, e, c, s, o, s', _, _, _, h => by cases h
  | k + 1, ρ, e, c, s, o, s', hS, he, hk, h => by
    have ih := dcode_ok hm hct (mg := mg) (lv := lv) hlp k
    -- ends that were made one
    have up : ∀ {o0 : Out} {s0 : St}, EndLe ρ (o0, s0) (o, s') → (∀ a, c ≠ .loop a) → (knOk ρ s0.kn ∧ e ≤ s0.n ∧ (okOk ρ s0.ok → TC P ρ e nt c s.fr s.n s.σ o0 s0.fr s0.n s0.σ ∧ okOk ρ s.ok)) →
        knOk ρ s'.kn ∧ e ≤ s'.n ∧ (okOk ρ s'.ok → TC P ρ e nt c s.fr s.n s.σ o s'.fr s'.n s'.σ ∧ okOk ρ s.ok ∧ (∀ a, c = .loop a → ∃ j, TR P ρ e nt a j s.fr s.n s.σ o s'.fr s'.n s'.σ)) := by
      intro o0 s0 hle hne ⟨g1, g2, g3⟩
      refine ⟨hle.2.kn g1, Nat.le_trans g2 hle.2.n, fun hok => ?_⟩
      obtain ⟨t1, t2⟩ := g3 (hle.2.ok hok)
      exact ⟨TC.up (a := (o0, s0)) (b := (o, s')) t1 hle, t2, fun a e => (hne a e).elim⟩
    unfold dcode at h
    split at h
    · cases h; exact ⟨hk, he, fun hok => ⟨TC.skip, hok, fun _ e => by cases e⟩⟩
    · cases h; exact ⟨hk, he, fun hok => ⟨TC.ret, hok, fun _ e => by cases e⟩⟩
    · cases h; exact ⟨hk, he, fun hok => ⟨TC.exit, hok, fun _ e => by cases e⟩⟩
    · rename_i id ops
      obtain ⟨⟨o0, s0⟩, h0, hle⟩ := mrg_ok hk h
      obtain ⟨s1, h1, h2⟩ := T.bind_some h0
      cases h2
      obtain ⟨g1, g2, g3⟩ := dops_ok (hct ρ) he hk h1
      refine up hle (fun _ e => by cases e) ⟨g1, g2, fun hok => ?_⟩
      obtain ⟨t1, t2⟩ := g3 hok
      refine ⟨?_, t2⟩
      have := TC.region (P := P) (ρ := ρ) (e := e) (nt := nt) (id := id) (l := ops.toList) (by simpa using t1)
      simpa using this
    · rename_i id ops
      obtain ⟨q, h1, h2⟩ := T.bind_some h
      obtain ⟨rs, s1⟩ := q
      simp only at h2
      split at h2
      · rename_i hc
        cases h2
        obtain ⟨g1, g2, g3⟩ := drec_ok (hct ρ) he hk h1
        refine ⟨g1, g2, fun hok => ?_⟩
        obtain ⟨t1, t2⟩ := g3 hok
        refine ⟨?_, t2, fun _ e => by cases e⟩
        have hl := TC.drawn (P := P) (e := e) hm (lx_ok t1 hc) (id := id)
        obtain ⟨z1, z2, z3⟩ := lx_zero t1
        have hlen : rs[ops.size]? = none := by
          have := recs_len t1
          simp at this
          simp [this]
        have e1 : (lx rs s').fr ops.size = s'.fr := by simp only [lx, hlen]
        have e2 : (lx rs s').n ops.size = s'.n := by simp only [lx, hlen]
        have e3 : (lx rs s').σ ops.size = s'.σ := by simp only [lx, hlen]
        rw [z1, z2, z3, e1, e2, e3] at hl
        exact hl
      · cases h2
    · rename_i a b
      have hSa : ∀ x, x ∈ loopsIn a → x ∈ S := fun x hx => hS x (by simp [loopsIn, hx])
      have hSb : ∀ x, x ∈ loopsIn b → x ∈ S := fun x hx => hS x (by simp [loopsIn, hx])
      obtain ⟨q, h1, h2⟩ := T.bind_some h
      obtain ⟨o1, s1⟩ := q
      obtain ⟨g1, g2, g3⟩ := ih ρ e a s o1 s1 hSa he hk h1
      simp only at h2
      split at h2
      · obtain ⟨k1, k2, k3⟩ := ih ρ e b s1 o s' hSb g2 g1 h2
        refine ⟨k1, k2, fun hok => ?_⟩
        obtain ⟨t1, t2, _⟩ := k3 hok
        obtain ⟨u1, u2, _⟩ := g3 t2
        exact ⟨TC.seq u1 t1, u2, fun _ e => by cases e⟩
      · rename_i hne
        cases h2
        refine ⟨g1, g2, fun hok => ?_⟩
        obtain ⟨u1, u2, _⟩ := g3 hok
        exact ⟨TC.seqOut u1 (fun e => hne e), u2, fun _ e => by cases e⟩
    · rename_i x a b
      have hSa : ∀ x, x ∈ loopsIn a → x ∈ S := fun x hx => hS x (by simp [loopsIn, hx])
      have hSb : ∀ x, x ∈ loopsIn b → x ∈ S := fun x hx => hS x (by simp [loopsIn, hx])
      split at h
      · rename_i bb hx
        obtain ⟨⟨o0, s0⟩, h0, hle⟩ := mrg_ok hk h
        obtain ⟨kn1, h1, h2⟩ := ask_ok bb (k := fun t kn => bif t then dcode P ct lp nt mg lv k a { s with kn := kn } else dcode P ct lp nt mg lv k b { s with kn := kn }) hk
        rw [h2] at h0
        cases hb : bb.den ρ with
        | true =>
          rw [hb] at h0
          obtain ⟨g1, g2, g3⟩ := ih ρ e a { s with kn := kn1 } o0 s0 hSa he h1 h0
          refine up hle (fun _ e => by cases e) ⟨g1, g2, fun hok => ?_⟩
          obtain ⟨u1, u2, _⟩ := g3 hok
          exact ⟨TC.cond hx hb (by rw [if_pos rfl]; exact u1), u2⟩
        | false =>
          rw [hb] at h0
          obtain ⟨g1, g2, g3⟩ := ih ρ e b { s with kn := kn1 } o0 s0 hSb he h1 h0
          refine up hle (fun _ e => by cases e) ⟨g1, g2, fun hok => ?_⟩
          obtain ⟨u1, u2, _⟩ := g3 hok
          exact ⟨TC.cond hx hb (by rw [if_neg (by simp)]; exact u1), u2⟩
      · cases h
    · rename_i id a
      have hSa : ∀ x, x ∈ loopsIn a → x ∈ S := fun x hx => hS x (by simp [loopsIn, hx])
      obtain ⟨q, h1, h2⟩ := T.bind_some h
      obtain ⟨o1, s1⟩ := q
      obtain ⟨g1, g2, g3⟩ := ih ρ e a s o1 s1 hSa he hk h1
      simp only at h2
      split at h2
      · rename_i j
        split at h2
        · rename_i hj
          cases h2
          refine ⟨g1, g2, fun hok => ?_⟩
          obtain ⟨u1, u2, _⟩ := g3 hok
          have : j = id := Nat.eq_of_beq_eq_true hj
          subst this
          exact ⟨TC.block u1 (.inr rfl), u2, fun _ e => by cases e⟩
        · rename_i hj
          cases h2
          refine ⟨g1, g2, fun hok => ?_⟩
          obtain ⟨u1, u2, _⟩ := g3 hok
          exact ⟨TC.blockOut u1 (by simp) (fun e => hj (by cases e; simp)), u2, fun _ e => by cases e⟩
      · rename_i hne
        cases h2
        refine ⟨g1, g2, fun hok => ?_⟩
        obtain ⟨u1, u2, _⟩ := g3 hok
        refine ⟨?_, u2, fun _ e => by cases e⟩
        cases o with
        | normal => exact TC.block u1 (.inl rfl)
        | exit j => exact (hne _ rfl).elim
        | ret => exact TC.blockOut u1 (by simp) (by simp)
    · rename_i a
      have hSa : ∀ x, x ∈ loopsIn a → x ∈ S := fun x hx => hS x (by simp [loopsIn, hx])
      have key : knOk ρ s'.kn ∧ e ≤ s'.n ∧ (okOk ρ s'.ok → okOk ρ s.ok ∧ ∃ j, TR P ρ e nt a j s.fr s.n s.σ o s'.fr s'.n s'.σ) := by
        split at h
        · rename_i t ht
          split at ht
          · rename_i id hid
            obtain ⟨g1, g2, g3⟩ := hlp ρ a (hS a (by simp [loopsIn])) id hid s t e o s' ht he hk h
            exact ⟨g1, g2, fun hok => ⟨(g3 hok).2, (g3 hok).1⟩⟩
          · cases ht
        · split at h
          · rename_i t ht
            unfold loopT at ht
            split at ht
            · cases ht
            · split at ht
              · rename_i t' ht'
                cases ht
                exact autoL_ok (P := P) (run := fun s => dcode P ct lp nt mg lv k a s) (fun ρ' g o1 s1 hkg hp => by
                  obtain ⟨g1, g2, g3⟩ := ih ρ' g.n a g o1 s1 hSa (Nat.le_refl _) hkg hp
                  exact ⟨g2, fun hok => (g3 hok).1⟩) ht' he hk h
              · cases ht; cases h
          · obtain ⟨q, h1, h2⟩ := T.bind_some h
            obtain ⟨o1, s1⟩ := q
            obtain ⟨g1, g2, g3⟩ := ih ρ e a s o1 s1 hSa he hk h1
            simp only at h2
            split at h2
            · obtain ⟨k1, k2, k3⟩ := ih ρ e (.loop a) s1 o s' hS g2 g1 h2
              refine ⟨k1, k2, fun hok => ?_⟩
              obtain ⟨_, t2, t3⟩ := k3 hok
              obtain ⟨u1, u2, _⟩ := g3 t2
              obtain ⟨j, hj⟩ := t3 a rfl
              exact ⟨u2, j + 1, TR.more u1 hj⟩
            · rename_i hne
              cases h2
              refine ⟨g1, g2, fun hok => ?_⟩
              obtain ⟨u1, u2, _⟩ := g3 hok
              exact ⟨u2, 1, TR.out u1 (fun e => hne e)⟩
      obtain ⟨k1, k2, k3⟩ := key
      refine ⟨k1, k2, fun hok => ?_⟩
      obtain ⟨t1, j, hj⟩ := k3 hok
      exact ⟨TC.loop hj, t1, fun _ e => by cases e; exact ⟨j, hj⟩⟩
    · cases h

/-- A function: its result, first free name and objects behind it; what must hold; what is known. -/
def dfun1 (P : Program) (ct : CT) (lp : LT) (mg : Nat) (k : Nat) (fn : Func) (args : List V) (n : Nat) (σ : Tr Ob) (kn : Kn) : T (V × St) :=
  match fn.body with
  | some c => if Nat.ble args.length fn.ntmps then (dcode P ct lp fn.ntmps mg (bif onM mg then liveOf fn c else []) k c ⟨putL .nil 0 args, n, σ, [], kn⟩).bind fun q => match q.1 with
      | .exit _ => .dead
      | _ => match resV P fn.results.toList q.2.fr q.2.σ with
        | some r => .leaf (r, q.2)
        | none => .dead
    else .dead
  | none => .dead
/-! ### functions that defer calls -/
def isDefer (o : Oper) : Bool := match o.op with
  | .defer _ => true
  | _ => false
def hasDef : Code → Bool
  | .region _ ops _ => ops.toList.any isDefer
  | .seq a b => hasDef a || hasDef b
  | .cond _ a b => hasDef a || hasDef b
  | .block _ a => hasDef a
  | .loop a => hasDef a
  | _ => false
abbrev DCall := FuncId × List V
def DOk1 (β : Bt) (q : DCall) (d : Deferred) : Prop := ∃ cap xs, d.target = .fn (.func q.1) cap ∧ d.args ++ cap = xs.toArray ∧ F2 (R β) q.2 xs
def DOk (β : Bt) : List DCall → List Deferred → Prop
  | [], [] => True
  | q :: D, d :: ds => DOk1 β q d ∧ DOk β D ds
  | _, _ => False
theorem DOk.mono {β β' : Bt} (hb : β.all β') : ∀ {D : List DCall} {ds : List Deferred}, DOk β D ds → DOk β' D ds
  | [], [], _ => trivial
  | _ :: _, _ :: _, ⟨⟨cap, xs, h1, h2, h3⟩, h⟩ => ⟨⟨cap, xs, h1, h2, h3.mono fun _ _ hr => hr.mono hb⟩, DOk.mono hb h⟩
  | [], _ :: _, h => h.elim
  | _ :: _, [], h => h.elim
/-- a piece of code that may defer calls. -/
def TD (P : Program) (ρ : Env) (e nt : Nat) (c : Code) (fr : Fm) (n : Nat) (σ : Sto) (D : List DCall) (o : Out) (fr' : Fm) (n' : Nat) (σ' : Sto) (D' : List DCall) : Prop :=
  ∀ (β : Bt) (a : Act) (w : World) (Q : Exit → Act → World → Prop), Sim ρ n β σ w → FrOk β fr nt a → DOk β D a.defers →
    (∀ β' a' w', Sim ρ n' β' σ' w' → FrOk β' fr' nt a' → DOk β' D' a'.defers → Step e β σ w β' σ' w' → Q o.ex a' w') → c.wp P Q a w
section
variable {P : Program} {ρ : Env} {e nt : Nat} {fr fr1 fr' : Fm} {n n1 n' : Nat} {σ σ1 σ' : Sto} {o : Out} {c c' : Code} {D D1 D' : List DCall}
theorem TD.of (h : TC P ρ n nt c fr n σ o fr' n' σ') (he : e ≤ n) : TD P ρ e nt c fr n σ D o fr' n' σ' D :=
  fun β a w Q hS hF hD hQ => h β a w Q hS hF fun β' a' w' hS' hF' st kp => hQ β' a' w' hS' hF' (by rw [kp.2]; exact hD.mono (hS.all st)) (st.weaken he)
theorem TD.seq (h1 : TD P ρ e nt c fr n σ D .normal fr1 n1 σ1 D1) (h2 : TD P ρ e nt c' fr1 n1 σ1 D1 o fr' n' σ' D') : TD P ρ e nt (.seq c c') fr n σ D o fr' n' σ' D' :=
  fun β a w Q hS hF hD hQ => wp_seq (h1 β a w _ hS hF hD fun β1 a1 w1 hS1 hF1 hD1 st1 => h2 β1 a1 w1 Q hS1 hF1 hD1 fun β2 a2 w2 hS2 hF2 hD2 st2 => hQ β2 a2 w2 hS2 hF2 hD2 (st1.trans st2))
theorem TD.seqOut (h1 : TD P ρ e nt c fr n σ D o fr' n' σ' D') (ho : o ≠ .normal) : TD P ρ e nt (.seq c c') fr n σ D o fr' n' σ' D' :=
  fun β a w Q hS hF hD hQ => wp_seq (h1 β a w _ hS hF hD fun β1 a1 w1 hS1 hF1 hD1 st1 => by
    have := hQ β1 a1 w1 hS1 hF1 hD1 st1
    cases o <;> first | exact (ho rfl).elim | exact this)
theorem TD.cond {x : Operand} {b : B} {t : Bool} (hx : opd fr x = .bool b) (hb : b.den ρ = t) (h : TD P ρ e nt (if t then c else c') fr n σ D o fr' n' σ' D') : TD P ρ e nt (.cond x c c') fr n σ D o fr' n' σ' D' :=
  fun β a w Q hS hF hD hQ => by
    have := hF.opd x
    rw [hx] at this
    have h1 := R_bool this
    rw [hS.env, hb] at h1
    exact wp_cond (t := t) h1 (h β a w Q hS hF hD hQ)
theorem TD.block {id : Nat} (h : TD P ρ e nt c fr n σ D o fr' n' σ' D') (ho : o = .normal ∨ o = .exit id) : TD P ρ e nt (.block id c) fr n σ D .normal fr' n' σ' D' :=
  fun β a w Q hS hF hD hQ => wp_block (h β a w _ hS hF hD fun β1 a1 w1 hS1 hF1 hD1 st1 => by
    have := hQ β1 a1 w1 hS1 hF1 hD1 st1
    rcases ho with rfl | rfl
    · exact this
    · simpa [Out.ex, Exit.inBlock] using this)
theorem TD.blockOut {id : Nat} (h : TD P ρ e nt c fr n σ D o fr' n' σ' D') (ho : o ≠ .normal) (hi : o ≠ .exit id) : TD P ρ e nt (.block id c) fr n σ D o fr' n' σ' D' :=
  fun β a w Q hS hF hD hQ => wp_block (h β a w _ hS hF hD fun β1 a1 w1 hS1 hF1 hD1 st1 => by
    have := hQ β1 a1 w1 hS1 hF1 hD1 st1
    cases o with
    | normal => exact (ho rfl).elim
    | ret => exact this
    | exit j => have hj : j ≠ id := fun e => hi (by rw [e]); simpa [Out.ex, Exit.inBlock, hj] using this)
theorem Oper.upon_imp {o : Oper} {a : Act} {K K' : Act → World → Prop} {Q Q' : Exit → Act → World → Prop} (hk : ∀ a w, K a w → K' a w) (hq : ∀ e a w, e ≠ .normal → Q e a w → Q' e a w) : ∀ {r : Result Next}, o.upon P a K Q r → o.upon P a K' Q' r := by
  intro r h
  unfold Oper.upon at h ⊢
  split at h
  · exact hk _ _ h
  · exact hk _ _ h
  · exact hk _ _ h
  · refine h.mono fun e w' h => ?_
    cases e with
    | returned v => exact hk _ _ h
    | panicked chain => exact hq _ _ _ (by simp) h
    | outgrown => obtain ⟨a, w, h⟩ := h; exact ⟨a, w, hq _ _ _ (by simp) h⟩
  · intro c cs
    obtain ⟨v, w', h1, h2⟩ := h c cs
    exact ⟨v, w', hk _ _ h1, h2⟩
  · exact hq _ _ _ (by simp) h
  · exact h.elim
theorem wpList_app {ops : Array Oper} {Q : Exit → Act → World → Prop} {l2 : List Oper} : ∀ (l1 : List Oper) (a : Act) (w : World),
    wpList P ops (fun e a w => match e with | .normal => wpList P ops Q l2 a w | e => Q e a w) l1 a w → wpList P ops Q (l1 ++ l2) a w
  | [], a, w, h => h
  | o :: l1, a, w, h => by
    unfold wpList at h
    show wpList P ops Q (o :: (l1 ++ l2)) a w
    unfold wpList
    split
    · rename_i hw
      rw [if_pos hw] at h
      rcases h with h | ⟨h, a', w', h'⟩
      · exact .inl (Oper.upon_imp (fun a w h => wpList_app l1 a w h) (fun e a w he h => by cases e <;> first | exact (he rfl).elim | exact h) h)
      · exact .inr ⟨h, a', w', h'⟩
    · rename_i hw
      rw [if_neg hw] at h
      exact wpList_app l1 _ _ h
theorem TD.defer {id : Nat} {l1 : List Oper} {op : Oper} {x : Operand} {as : Array Operand} {ts : Array TypeId} {g : FuncId} {first cap : List V} (h1 : TL P ρ n nt (l1 ++ [op]).toArray l1 fr n σ fr1 n1 σ1) (hop : op.op = .defer { callee := .value x, args := as, argTypes := ts })
    (hd : op.dst = none) (hg : op.guard = none) (hx : opd fr1 x = .fn (.func g) first cap) (he : e ≤ n) : TD P ρ e nt (.region id (l1 ++ [op]).toArray false) fr n σ D .normal fr1 n1 σ1 ((g, first ++ as.toList.map (opd fr1) ++ cap) :: D) := by
  intro β a w Q hS hF hD hQ
  refine wp_region_lit (wpList_app l1 a w (h1 β a w _ hS hF fun β1 a1 w1 hS1 hF1 st1 kp1 => ?_))
  show wpList P _ Q [op] a1 w1
  refine wpList_step fun K hK => ?_
  have hw : Region.wanted op (yielded (l1 ++ [op]).toArray a1.tmps) = true := by unfold Region.wanted; rw [hg]
  rw [if_pos hw]
  have h2 := hF1.opd x
  rw [hx] at h2
  obtain ⟨ys, zs, e2, hF1', hF3⟩ := (show R1 β1 (.fn (.func g) first cap) (a1.eval x) from h2)
  have hrun : (execOp a1.eval op).run P w1 = .ok (.defer { target := .fn (.func g) zs, args := ys ++ as.map a1.eval }) w1 := by
    unfold execOp
    rw [hop]
    simp only [resolve, e2, Deferred.ofValue, Sem.run_bind, Sem.run_pure, Result.andThen_ok]
  unfold Oper.wp
  rw [hrun, Oper.upon_defer, hd]
  refine hK _ _ (wpList_nil (hQ β1 _ w1 hS1 hF1 ⟨⟨zs, ys.toList ++ as.toList.map a1.eval ++ zs.toList, rfl, ?_, ?_⟩, ?_⟩ (st1.weaken he)))
  · apply Array.ext'; simp
  · exact ((hF1'.mono fun _ _ => R0.toR).app (F2.map _ _ _ fun y _ => hF1.opd y)).app (hF3.mono fun _ _ => R0.toR)
  · show DOk β1 D a1.defers
    rw [kp1.2]; exact hD.mono (hS.all st1)
end
/-- a region whose last operation defers a call. -/
def lastDef (l : List Oper) : Option (List Oper × Oper × Operand × Array Operand) := match l.getLast? with
  | some o => match o.op with
    | .defer { callee := .value x, args := as, argTypes := _ } => match o.dst, o.guard with
      | none, none => some (l.dropLast, o, x, as)
      | _, _ => none
    | _ => none
  | none => none
theorem lastDef_ok {l l1 : List Oper} {o : Oper} {x : Operand} {as : Array Operand} (h : lastDef l = some (l1, o, x, as)) : l = l1 ++ [o] ∧ (∃ ts, o.op = .defer { callee := .value x, args := as, argTypes := ts }) ∧ o.dst = none ∧ o.guard = none := by
  unfold lastDef at h
  split at h
  · rename_i o' ho
    split at h
    · rename_i x' as' ts hop
      split at h
      · rename_i hd hg
        simp only [Option.some.injEq, Prod.mk.injEq] at h
        obtain ⟨rfl, rfl, rfl, rfl⟩ := h
        obtain ⟨hne, hl⟩ := List.getLast?_eq_some_iff.1 ho
        exact ⟨by rw [hl]; simp, ⟨ts, hop⟩, hd, hg⟩
      · cases h
    · cases h
  · cases h
def dcodeD (P : Program) (ct : CT) (lp : LT) (nt : Nat) : Nat → Code → St → List DCall → T (Out × St × List DCall)
  | 0, _, _, _ => .dead
  | k + 1, c, s, D => bif !(hasDef c) then (dcode P ct lp nt 0 [] k c s).bind fun q => .leaf (q.1, q.2, D) else
    match c with
    | .region _ ops false => match lastDef ops.toList with
      | some (l1, _, x, as) => (dops P ct nt ops l1 s).bind fun s' => match opd s'.fr x with
        | .fn (.func g) first cap => .leaf (.normal, s', (g, first ++ as.toList.map (opd s'.fr) ++ cap) :: D)
        | _ => .dead
      | none => .dead
    | .seq a b => (dcodeD P ct lp nt k a s D).bind fun q => match q.1 with
      | .normal => dcodeD P ct lp nt k b q.2.1 q.2.2
      | o => .leaf (o, q.2)
    | .cond x a b => match opd s.fr x with
      | .bool c => ask c s.kn fun t kn => bif t then dcodeD P ct lp nt k a { s with kn := kn } D else dcodeD P ct lp nt k b { s with kn := kn } D
      | _ => .dead
    | .block id a => (dcodeD P ct lp nt k a s D).bind fun q => match q.1 with
      | .exit j => if Nat.beq j id then .leaf (.normal, q.2) else .leaf (.exit j, q.2)
      | o => .leaf (o, q.2)
    | _ => .dead
theorem dcodeD_ok {P : Program} (hm : P.follows .mixedOrders = true) {ct : CT} (hct : ∀ ρ, CTOk P ρ ct) {lp : LT} {nt : Nat} {S : List Code} (hlp : ∀ ρ, LTOk P ρ nt S lp) : ∀ (k : Nat) (ρ : Env) (e : Nat) (c : Code) (s : St) (D : List DCall) (o : Out) (s' : St) (D' : List DCall), (∀ a, a ∈ loopsIn c → a ∈ S) → e ≤ s.n → knOk ρ s.kn → (dcodeD P ct lp nt k c s D).pick ρ = some (o, s', D') →
    knOk ρ s'.kn ∧ e ≤ s'.n ∧ (okOk ρ s'.ok → TD P ρ e nt c s.fr s.n s.σ D o s'.fr s'.n s'.σ D' ∧ okOk ρ s.ok)
  | 0, ρ, e, c, s, D, o, s', D', _, _, _, h => by cases h
  | k + 1, ρ, e, c, s, D, o, s', D', hS, he, hk, h => by
    have ih := dcodeD_ok hm hct hlp k
    unfold dcodeD at h
    cases hd : !(hasDef c) with
    | true =>
      rw [hd, cond_true] at h
      obtain ⟨q, h1, h2⟩ := T.bind_some h
      obtain ⟨o1, s1⟩ := q
      cases h2
      obtain ⟨g1, g2, g3⟩ := dcode_ok hm hct hlp k ρ s.n c s o1 s1 hS (Nat.le_refl _) hk h1
      exact ⟨g1, Nat.le_trans he g2, fun hok => ⟨TD.of (g3 hok).1 he, (g3 hok).2.1⟩⟩
    | false =>
      rw [hd, cond_false] at h
      split at h
      · rename_i id ops
        split at h
        · rename_i l1 op x as hl
          obtain ⟨e1, ⟨ts, e2⟩, e3, e4⟩ := lastDef_ok hl
          obtain ⟨s1, h1, h2⟩ := T.bind_some h
          split at h2
          · rename_i g first cap hx
            cases h2
            obtain ⟨g1, g2, g3⟩ := dops_ok (hct ρ) (e := s.n) (nt := nt) (Nat.le_refl _) hk h1
            refine ⟨g1, Nat.le_trans he g2, fun hok => ⟨?_, (g3 hok).2⟩⟩
            have ht := (g3 hok).1
            have ea : ops = (l1 ++ [op]).toArray := by rw [← e1]
            rw [ea] at ht ⊢
            exact TD.defer ht e2 e3 e4 hx he
          · cases h2
        · cases h
      · rename_i a b
        obtain ⟨q, h1, h2⟩ := T.bind_some h
        obtain ⟨o1, s1, D1⟩ := q
        obtain ⟨g1, g2, g3⟩ := ih ρ e a s D o1 s1 D1 (fun x hx => hS x (by simp only [loopsIn, List.mem_append]; exact .inl hx)) he hk h1
        simp only at h2
        split at h2
        · obtain ⟨k1, k2, k3⟩ := ih ρ e b s1 D1 o s' D' (fun x hx => hS x (by simp only [loopsIn, List.mem_append]; exact .inr hx)) g2 g1 h2
          refine ⟨k1, k2, fun hok => ?_⟩
          obtain ⟨t1, t2⟩ := k3 hok
          obtain ⟨u1, u2⟩ := g3 t2
          exact ⟨TD.seq u1 t1, u2⟩
        · rename_i hne
          cases h2
          exact ⟨g1, g2, fun hok => ⟨TD.seqOut (g3 hok).1 (fun e => hne e), (g3 hok).2⟩⟩
      · rename_i x a b
        split at h
        · rename_i b0 hb0
          obtain ⟨kn1, h1, h2⟩ := ask_ok b0 (k := fun t kn => bif t then dcodeD P ct lp nt k a { s with kn := kn } D else dcodeD P ct lp nt k b { s with kn := kn } D) hk
          rw [h2] at h
          cases hc : b0.den ρ with
          | true =>
            rw [hc] at h
            obtain ⟨g1, g2, g3⟩ := ih ρ e a { s with kn := kn1 } D o s' D' (fun x hx => hS x (by simp only [loopsIn, List.mem_append]; exact .inl hx)) he h1 h
            exact ⟨g1, g2, fun hok => ⟨TD.cond hb0 hc (t := true) (g3 hok).1, (g3 hok).2⟩⟩
          | false =>
            rw [hc] at h
            obtain ⟨g1, g2, g3⟩ := ih ρ e b { s with kn := kn1 } D o s' D' (fun x hx => hS x (by simp only [loopsIn, List.mem_append]; exact .inr hx)) he h1 h
            exact ⟨g1, g2, fun hok => ⟨TD.cond hb0 hc (t := false) (g3 hok).1, (g3 hok).2⟩⟩
        · cases h
      · rename_i id a
        obtain ⟨q, h1, h2⟩ := T.bind_some h
        obtain ⟨o1, s1, D1⟩ := q
        obtain ⟨g1, g2, g3⟩ := ih ρ e a s D o1 s1 D1 (fun x hx => hS x (by simpa only [loopsIn] using hx)) he hk h1
        simp only at h2
        split at h2
        · rename_i j
          split at h2
          · rename_i hj
            cases h2
            exact ⟨g1, g2, fun hok => ⟨TD.block (g3 hok).1 (.inr (by rw [Nat.eq_of_beq_eq_true hj])), (g3 hok).2⟩⟩
          · rename_i hj
            cases h2
            exact ⟨g1, g2, fun hok => ⟨TD.blockOut (g3 hok).1 (by simp) (fun e => hj (by cases e; simp)), (g3 hok).2⟩⟩
        · rename_i hne
          cases h2
          cases o with
          | normal => exact ⟨g1, g2, fun hok => ⟨TD.block (g3 hok).1 (.inl rfl), (g3 hok).2⟩⟩
          | ret => exact ⟨g1, g2, fun hok => ⟨TD.blockOut (g3 hok).1 (by simp) (by simp), (g3 hok).2⟩⟩
          | exit j => exact (hne j rfl).elim
      · cases h
/-- the calls that were deferred, the last one first. -/
def runD (P : Program) (ct : CT) (k : Nat) : List DCall → St → T St
  | [], s => .leaf s
  | q :: D, s => match P.funcs[q.1]? with
    | some fn => if fn.name == "runtime.NumGoroutine" then .dead else match fn.body with
      | some c => if Nat.ble q.2.length fn.ntmps then (dcode P ct noLoops fn.ntmps 0 [] k c ⟨putL .nil 0 q.2, s.n, s.ob, s.ok, s.kn⟩).bind fun z => match z.1 with
          | .exit _ => .dead
          | _ => match resV P fn.results.toList z.2.fr z.2.σ with
            | some _ => runD P ct k D { z.2 with tr := s.tr }
            | none => .dead
        else .dead
      | none => .dead
    | none => .dead
theorem args_fr {β : Bt} {args : List V} {xs : List Value} {nt : Nat} (hA : F2 (R β) args xs) (hl : args.length ≤ nt) : FrOk β (fr0 args) nt { tmps := xs.toArray ++ Array.replicate (nt - xs.toArray.size) undef, defers := [] } := by
  have hlen := hA.length
  refine ⟨fun t => ?_, by simp; omega, trivial⟩
  unfold fr0
  by_cases ht : t < args.length
  · have e1 : args.getD t .und = args[t] := by simp [List.getD, ht]
    have ht' : t < xs.length := by omega
    obtain ⟨x, hx, hR⟩ := hA.get t args[t] (by simp [ht])
    have e2 : (xs.toArray ++ Array.replicate (nt - xs.toArray.size) undef).getD t undef = x := by
      have : xs[t]? = some x := hx
      simp [Array.getElem?_append, ht'] at this ⊢
      exact this
    rw [e1, e2]; exact hR
  · have e1 : args.getD t .und = .und := by simp [List.getD, List.getElem?_eq_none (Nat.le_of_not_lt ht)]
    rw [e1]; trivial
theorem CallsD.imp {P : Program} {f : FuncId} {args : Array Value} {u : FrameMode} {w : World} {R R' : Ending → FrameMode → World → Prop} (h : CallsD P f args u w R) (hr : ∀ e u' w', R e u' w' → R' e u' w') : CallsD P f args u w R' := by
  intro c cs hc
  obtain ⟨e, u', w', fr, h1, h2⟩ := h c cs hc
  exact ⟨e, u', w', fr, hr _ _ _ h1, h2⟩
theorem runD_ok {P : Program} (hm : P.follows .mixedOrders = true) {ct : CT} (hct : ∀ ρ, CTOk P ρ ct) {k : Nat} {ρ : Env} {fn : Func} {tmps : Array Value} {R' : Ending → World → Prop} : ∀ {D : List DCall} {s s' : St}, knOk ρ s.kn → (runD P ct k D s).pick ρ = some s' →
    knOk ρ s'.kn ∧ s.n ≤ s'.n ∧ (okOk ρ s'.ok → okOk ρ s.ok ∧ ∀ (β : Bt) (w : World) (ds : List Deferred), Sim ρ s.n β s.σ w → DOk β D ds → (∀ β' w', Sim ρ s'.n β' s'.σ w' → Step s.n β s.σ w β' s'.σ w' → ∃ v, (results fn tmps).run P w' = .ok v w' ∧ R' (.returned v) w') → Leaves P fn tmps R' ds .returning w)
  | [], s, s', hk, h => by
    cases h
    refine ⟨hk, Nat.le_refl _, fun hok => ⟨hok, fun β w ds hS hD hQ => ?_⟩⟩
    cases ds with
    | nil => exact hQ β w hS Step.refl
    | cons d ds => exact hD.elim
  | q :: D, s, s', hk, h => by
    unfold runD at h
    split at h
    · rename_i fn1 hf1
      split at h
      · cases h
      · rename_i hn1
        split at h
        · rename_i c hb
          split at h
          · rename_i hl
            obtain ⟨z, h1, h2⟩ := T.bind_some h
            obtain ⟨o1, s1⟩ := z
            obtain ⟨g1, g2, g3⟩ := dcode_ok hm hct (S := bodyLoops fn1) (fun ρ => noLoops_ok P ρ _ _) k ρ s.n c ⟨putL .nil 0 q.2, s.n, s.ob, s.ok, s.kn⟩ o1 s1 (fun a ha => by unfold bodyLoops; rw [hb]; exact ha) (Nat.le_refl _) hk h1
            simp only at h2
            split at h2
            · cases h2
            · rename_i hne
              split at h2
              · rename_i r' hr
                obtain ⟨k1, k2, k3⟩ := runD_ok hm hct (R' := R') (fn := fn) (tmps := tmps) (D := D) (s := { s1 with tr := s.tr }) (s' := s') g1 h2
                refine ⟨k1, Nat.le_trans g2 k2, fun hok => ?_⟩
                obtain ⟨l1, l2⟩ := k3 hok
                obtain ⟨t1, t2, _⟩ := g3 l1
                refine ⟨t2, fun β w ds hS hD hQ => ?_⟩
                cases ds with
                | nil => exact hD.elim
                | cons d ds =>
                  obtain ⟨⟨cap, xs, e1, e2, e3⟩, hD⟩ := hD
                  rw [show (St.fr ⟨putL .nil 0 q.2, s.n, s.ob, s.ok, s.kn⟩) = fr0 q.2 from putL_fm q.2] at t1
                  refine ⟨by simp, .func q.1, cap, q.1, d.args ++ cap, e1, ?_, ?_⟩
                  · rw [e1]
                    have hbn : fn1.body.isNone = false := by rw [hb]; rfl
                    simp only [invoke, callFunc, Sem.run_bind, Result.andThen_ok, run_program, hf1, Bool.not_eq_true] at hn1 ⊢
                    simp only [hn1, hbn, Bool.false_eq_true, if_false, Sem.run_pure]
                  · rw [e2]
                    refine CallsD.imp (callsD_of_wp (R := fun e w' => ∃ x, e = .returned x ∧ ∃ β', Sim ρ s1.n β' s1.σ w' ∧ Step s.n β s.σ w β' s1.σ w') hf1 hb (t1 β _ w _ hS (args_fr e3 (Nat.le_of_ble_eq_true hl)) fun β1 a1 w1 hS1 hF1 st1 kp1 => ?_)) ?_
                    · obtain ⟨x, hx, hR⟩ := run_results (P := P) hS1 hF1 hr
                      have ho : o1 = .normal ∨ o1 = .ret := by
                        cases o1 with
                        | normal => exact .inl rfl
                        | ret => exact .inr rfl
                        | exit j => exact (hne _ rfl).elim
                      rcases ho with rfl | rfl
                      · exact ⟨kp1.2, x, hx, x, rfl, β1, hS1, st1⟩
                      · exact ⟨kp1.2, x, hx, x, rfl, β1, hS1, st1⟩
                    · rintro e u' w' ⟨rfl, x, rfl, β1, hS1, st1⟩
                      show Leaves P fn tmps R' ds .returning w'
                      refine l2 β1 w' ds hS1 (hD.mono (hS.all st1)) fun β2 w2 hS2 st2 => hQ β2 w2 hS2 (st1.trans (st2.weaken g2))
              · cases h2
          · cases h
        · cases h
    · cases h
def dfunD (P : Program) (ct : CT) (lp : LT) (k : Nat) (fn : Func) (c : Code) (args : List V) (n : Nat) (σ : Tr Ob) (kn : Kn) : T (V × St) :=
  if Nat.ble args.length fn.ntmps then (dcodeD P ct lp fn.ntmps k c ⟨putL .nil 0 args, n, σ, [], kn⟩ []).bind fun q => match q.1 with
    | .exit _ => .dead
    | _ => (runD P ct k q.2.2 q.2.1).bind fun s' => match resV P fn.results.toList q.2.1.fr s'.σ with
      | some r => .leaf (r, s')
      | none => .dead
  else .dead
theorem dfunD_ok {P : Program} {ρ : Env} (hm : P.follows .mixedOrders = true) {ct : CT} (hct : ∀ ρ, CTOk P ρ ct) {lp : LT} {k : Nat} {f : FuncId} {fn : Func} {c : Code} (hb : fn.body = some c) (hlp : ∀ ρ, LTOk P ρ fn.ntmps (bodyLoops fn) lp) (hf : P.funcs[f]? = some fn) (hn : (fn.name == "runtime.NumGoroutine") = false) {args : List V} {n : Nat} {σ : Tr Ob} {kn : Kn} (hk : knOk ρ kn) {r : V} {s' : St}
    (h : (dfunD P ct lp k fn c args n σ kn).pick ρ = some (r, s')) : knOk ρ s'.kn ∧ n ≤ s'.n ∧ (okOk ρ s'.ok → Spec P ρ f args n σ.get r s'.n s'.σ) := by
  unfold dfunD at h
  unfold bodyLoops at hlp
  rw [hb] at hlp
  split at h
  · rename_i hl
    obtain ⟨q, h1, h2⟩ := T.bind_some h
    obtain ⟨o1, s1, D1⟩ := q
    obtain ⟨g1, g2, g3⟩ := dcodeD_ok hm hct hlp k ρ n c _ [] o1 s1 D1 (fun a ha => ha) (Nat.le_refl n) hk h1
    simp only at h2
    split at h2
    · cases h2
    · rename_i hne
      obtain ⟨s2, h3, h4⟩ := T.bind_some h2
      split at h4
      · rename_i r' hr
        cases h4
        obtain ⟨k1, k2, _⟩ := runD_ok hm hct (R' := fun _ _ => True) (fn := fn) (tmps := #[]) g1 h3
        refine ⟨k1, Nat.le_trans g2 k2, fun hok => ⟨⟨fn, hf, hn, by rw [hb]; rfl⟩, fun β xs w hS hA => calls_of_wp_defers hf hb ?_⟩⟩
        have hok1 := ((runD_ok hm hct (R' := fun _ _ => True) (fn := fn) (tmps := #[]) g1 h3).2.2 hok).1
        obtain ⟨t1, _⟩ := g3 hok1
        rw [show (St.fr ⟨putL .nil 0 args, n, σ, [], kn⟩) = fr0 args from putL_fm args] at t1
        refine t1 β _ w _ hS (args_fr hA (Nat.le_of_ble_eq_true hl)) trivial fun β1 a1 w1 hS1 hF1 hD1 st1 => ?_
        have key := ((runD_ok hm hct (R' := fun e w' => ∃ x β', e = .returned x ∧ R β' r x ∧ Sim ρ s'.n β' s'.σ w' ∧ Step n β σ.get w β' s'.σ w') (fn := fn) (tmps := a1.tmps) g1 h3).2.2 hok).2 β1 w1 a1.defers hS1 hD1 fun β2 w2 hS2 st2 => by
          have hF2 := hF1.mono (hS1.all st2)
          obtain ⟨x, hx, hR⟩ := run_results (P := P) (a := a1) hS2 hF2 hr
          exact ⟨x, hx, x, β2, rfl, hR, hS2, st1.trans (st2.weaken g2)⟩
        cases o1 with
        | normal => exact key
        | ret => exact key
        | exit j => exact (hne _ rfl).elim
      · cases h4
  · cases h
/-- are results made one? 3: no. -/
def onR (mg : Nat) : Bool := onM mg && !(Nat.beq mg 3)
def dfun (P : Program) (ct : CT) (lp : LT) (mg : Nat) (k : Nat) (fn : Func) (args : List V) (n : Nat) (σ : Tr Ob) (kn : Kn) : T (V × St) :=
  match fn.body with
  | some c => bif hasDef c then dfunD P ct lp k fn c args n σ kn else bif onR mg then mergeT (mkRes n kn) (dfun1 P ct lp mg k fn args n σ kn) else dfun1 P ct lp mg k fn args n σ kn
  | none => .dead
theorem dfun1_ok {P : Program} {ρ : Env} (hm : P.follows .mixedOrders = true) {ct : CT} (hct : ∀ ρ, CTOk P ρ ct) {lp : LT} {mg : Nat} {k : Nat} {f : FuncId} {fn : Func} (hlp : ∀ ρ, LTOk P ρ fn.ntmps (bodyLoops fn) lp) (hf : P.funcs[f]? = some fn) (hn : (fn.name == "runtime.NumGoroutine") = false) {args : List V} {n : Nat} {σ : Tr Ob} {kn : Kn} (hk : knOk ρ kn) {r : V} {s' : St}
    (h : (dfun1 P ct lp mg k fn args n σ kn).pick ρ = some (r, s')) : knOk ρ s'.kn ∧ n ≤ s'.n ∧ (okOk ρ s'.ok → Spec P ρ f args n σ.get r s'.n s'.σ) := by
  unfold dfun1 at h
  unfold bodyLoops at hlp
  split at h
  · rename_i c hb
    rw [hb] at hlp
    split at h
    · rename_i hl
      obtain ⟨q, h1, h2⟩ := T.bind_some h
      obtain ⟨o1, s1⟩ := q
      obtain ⟨g1, g2, g3⟩ := dcode_ok hm hct hlp k ρ n c _ o1 s1 (fun a ha => ha) (Nat.le_refl n) hk h1
      simp only at h2
      split at h2
      · cases h2
      · rename_i hne
        split at h2
        · rename_i r' hr
          cases h2
          refine ⟨g1, g2, fun hok => ?_⟩
          obtain ⟨t1, _, _⟩ := g3 hok
          rw [show (St.fr ⟨putL .nil 0 args, n, σ, [], kn⟩) = fr0 args from putL_fm args] at t1
          refine Spec.enter hf hn hb (Nat.le_of_ble_eq_true hl) t1 ?_ hr
          cases o1 with
          | normal => exact .inl rfl
          | ret => exact .inr rfl
          | exit j => exact (hne _ rfl).elim
        · cases h2
    · cases h
  · cases h
theorem Spec.up {P : Program} {ρ : Env} {f : FuncId} {args : List V} {n : Nat} {σ : Sto} {a b : V × St} (h : Spec P ρ f args n σ a.1 a.2.n a.2.σ) (hl : ResLe ρ a b) : Spec P ρ f args n σ b.1 b.2.n b.2.σ :=
  ⟨h.there, fun β xs w hS hA => (h.calls β xs w hS hA).mono fun e w' ⟨x, β', he, hR, hS', st⟩ => ⟨x, β', he, hl.1 β' x hS'.env hR, (hS'.imp hl.2.σ).monoN hl.2.n, st.impEnd hl.2.σ⟩⟩
theorem dfun_ok {P : Program} {ρ : Env} (hm : P.follows .mixedOrders = true) {ct : CT} (hct : ∀ ρ, CTOk P ρ ct) {lp : LT} {mg : Nat} {k : Nat} {f : FuncId} {fn : Func} (hlp : ∀ ρ, LTOk P ρ fn.ntmps (bodyLoops fn) lp) (hf : P.funcs[f]? = some fn) (hn : (fn.name == "runtime.NumGoroutine") = false) {args : List V} {n : Nat} {σ : Tr Ob} {kn : Kn} (hk : knOk ρ kn) {r : V} {s' : St}
    (h : (dfun P ct lp mg k fn args n σ kn).pick ρ = some (r, s')) : knOk ρ s'.kn ∧ n ≤ s'.n ∧ (okOk ρ s'.ok → Spec P ρ f args n σ.get r s'.n s'.σ) := by
  unfold dfun at h
  split at h
  · rename_i c hb
    cases hd : hasDef c with
    | true => rw [hd, cond_true] at h; exact dfunD_ok hm hct hb hlp hf hn hk h
    | false =>
      rw [hd, cond_false] at h
      cases hmg : onR mg with
      | false => rw [hmg] at h; exact dfun1_ok hm hct hlp hf hn hk h
      | true =>
        rw [hmg, cond_true] at h
        obtain ⟨⟨r0, s0⟩, h1, h2⟩ := mergeT_ok (r := ResLe ρ) (fun a => ⟨V.imp.refl _ _, St.le.refl _ _⟩) (fun a b c h k => ⟨h.1.trans k.1, h.2.trans k.2⟩) (mkRes_ok hk) h
        obtain ⟨g1, g2, g3⟩ := dfun1_ok hm hct hlp hf hn hk h1
        exact ⟨h2.2.kn g1, Nat.le_trans g2 h2.2.n, fun hok => Spec.up (a := (r0, s0)) (b := (r, s')) (g3 (h2.2.ok hok)) h2⟩
  · cases h

/-! ### tables -/
def noCalls : CT := fun _ _ _ _ _ => .dead
theorem noCalls_ok (P : Program) (ρ : Env) : CTOk P ρ noCalls := fun _ _ _ _ _ _ _ _ _ _ _ h => by cases h
/-- calls that are told; the others are carried out. -/
abbrev TT := FuncId → List V → Nat → Sto → Kn → Option (T CR)
def TTOk (P : Program) (ρ : Env) (tt : TT) : Prop := ∀ g args n σ kn t r news muts bs kn', knOk ρ kn → tt g args n σ kn = some t → t.pick ρ = some (r, news, muts, bs, kn') → knOk ρ kn' ∧ (okOk ρ bs → Spec P ρ g args n σ r (n + news.length) (ext n σ news muts))
def newsOf (n : Nat) (keep : List Nat) (σ : Sto) : Nat → List (Option Ob)
  | 0 => []
  | m + 1 => (if keep.contains n then σ n else none) :: newsOf (n + 1) keep σ m
theorem newsOf_len : ∀ (m n : Nat) (keep : List Nat) (σ : Sto), (newsOf n keep σ m).length = m
  | 0, _, _, _ => rfl
  | m + 1, n, keep, σ => by simp [newsOf, newsOf_len m]
theorem newsOf_get : ∀ {m n j : Nat} {keep : List Nat} {σ : Sto} {o : Ob}, (newsOf n keep σ m)[j]? = some (some o) → σ (n + j) = some o
  | 0, _, _, _, _, _, h => by cases h
  | m + 1, n, 0, keep, σ, o, h => by
    simp only [newsOf, List.getElem?_cons_zero, Option.some.injEq] at h
    split at h
    · simpa using h
    · cases h
  | m + 1, n, j + 1, keep, σ, o, h => by
    simp only [newsOf, List.getElem?_cons_succ] at h
    have := newsOf_get h
    rwa [show n + 1 + j = n + (j + 1) by omega] at this
theorem trOf_st (σ : Sto) (d : List Nat) : (trOf σ d).get = restr d σ := by
  funext id
  unfold restr
  induction d with
  | nil => rfl
  | cons a d ih =>
    rw [trOf, Tr.get_put, ih]
    by_cases h : id = a
    · subst h; simp
    · simp [h]
/-- what is told: calls, loops; where ends are made one. -/
structure Cf where
  tt : TT
  lp : FuncId → LT
  mg : FuncId → Nat
def inl (P : Program) (cf : Cf) (fuel : Nat) : Nat → CT
  | 0 => fun _ _ _ _ _ => .dead
  | k + 1 => fun g args n σ kn => match cf.tt g args n σ kn with
    | some t => t
    | none => match P.funcs[g]? with
      | none => .dead
      | some fn => if fn.name == "runtime.NumGoroutine" then .dead else
        let d := reach σ 1000 (args.flatMap V.ids) []
        if d.all (fun id => (σ id).isSome && Nat.blt id n) then
          (dfun P (inl P cf fuel k) (cf.lp g) (cf.mg g) fuel fn args n (trOf σ d) kn).bind fun q =>
            .leaf (q.1, newsOf n (reach q.2.σ 1000 (q.1.ids ++ d) []) q.2.σ (q.2.n - n), d.map (fun id => (id, q.2.σ id)), q.2.ok, q.2.kn)
        else .dead
def LPOk (P : Program) (ρ : Env) (lp : FuncId → LT) : Prop := ∀ g fn, P.funcs[g]? = some fn → LTOk P ρ fn.ntmps (bodyLoops fn) (lp g)
theorem find_map (d : List Nat) (σ : Sto) (id : Nat) : (d.map fun id => (id, σ id)).find? (fun x => Nat.beq x.1 id) = if d.contains id then some (id, σ id) else none := by
  induction d with
  | nil => rfl
  | cons a d ih =>
    simp only [List.map_cons, List.find?_cons]
    cases h : Nat.beq a id with
    | true => have := Nat.eq_of_beq_eq_true h; subst this; simp
    | false =>
      have hne : id ≠ a := by rintro rfl; simp at h
      rw [ih]
      simp [hne]
structure CfOk (P : Program) (cf : Cf) : Prop where
  tt : ∀ ρ, TTOk P ρ cf.tt
  lp : ∀ ρ, LPOk P ρ cf.lp
theorem inl_ok {P : Program} (hm : P.follows .mixedOrders = true) {cf : Cf} (hcf : CfOk P cf) (fuel : Nat) : ∀ k ρ, CTOk P ρ (inl P cf fuel k)
  | 0, _ => fun _ _ _ _ _ _ _ _ _ _ _ h => by cases h
  | k + 1, ρ => by
    intro g args n σ kn r news muts bs kn' hk h
    unfold inl at h
    split at h
    · rename_i t ht; exact hcf.tt ρ g args n σ kn t r news muts bs kn' hk ht h
    · split at h
      · cases h
      · rename_i fn hf
        split at h
        · cases h
        · rename_i hn
          simp only at h
          generalize hd : reach σ 1000 (args.flatMap V.ids) [] = d at h
          split at h
          · rename_i hdom
            obtain ⟨q, h1, h2⟩ := T.bind_some h
            obtain ⟨r', s'⟩ := q
            cases h2
            obtain ⟨g1, g2, g3⟩ := dfun_ok hm (inl_ok hm hcf fuel k) (fun ρ => hcf.lp ρ g fn hf) hf (by simpa using hn) hk h1
            refine ⟨g1, fun hok => ?_⟩
            have hspec := g3 hok
            rw [trOf_st] at hspec
            have hle : (restr d σ).le σ := fun id o e => by
              unfold restr at e; split at e
              · exact e
              · cases e
            have hfr := hspec.frame hle
            rw [newsOf_len]
            have hn' : n + (s'.n - n) = s'.n := by omega
            rw [hn']
            refine ⟨hfr.there, fun β xs w hS hA => (hfr.calls β xs w hS hA).mono fun e w' ⟨x, β', he, hR, hS', st⟩ => ?_⟩
            have hless : (ext n σ (newsOf n (reach s'.σ 1000 (r'.ids ++ d) []) s'.σ (s'.n - n)) (d.map fun id => (id, s'.σ id))).le (Sto.over n σ (restr d σ) s'.σ) := by
              intro id o e1
              unfold ext at e1
              unfold Sto.over
              rw [newsOf_len] at e1
              split at e1
              · rename_i hc
                simp only [Bool.and_eq_true] at hc
                have hge : n ≤ id := Nat.le_of_ble_eq_true hc.1
                rw [if_pos hc.1]
                split at e1
                · rename_i o' ho'
                  subst e1
                  have := newsOf_get ho'
                  rwa [show n + (id - n) = id by omega] at this
                · cases e1
              · rename_i hc
                rw [find_map] at e1
                cases hcd : d.contains id with
                | true =>
                  rw [hcd] at e1
                  simp only [if_true] at e1
                  have hin := List.all_eq_true.1 hdom id (by simpa using hcd)
                  simp only [Bool.and_eq_true] at hin
                  have hlt : id < n := Nat.le_of_ble_eq_true hin.2
                  rw [if_neg (by simp; omega), if_pos (by unfold restr; rw [if_pos hcd]; exact hin.1)]
                  exact e1
                | false =>
                  rw [hcd] at e1
                  simp only [Bool.false_eq_true, if_false] at e1
                  have hlt : id < n := by
                    obtain ⟨q, hq, _⟩ := hS.ob id o e1
                    exact hS.lt hq
                  rw [if_neg (by simp; omega), if_neg (by unfold restr; rw [hcd]; simp)]
                  exact e1
            exact ⟨x, β', he, hR, hS'.drop hless, st.dropEnd hless⟩
          · cases h
def noTab : TT := fun _ _ _ _ _ => none
theorem noTab_ok (P : Program) (ρ : Env) : TTOk P ρ noTab := fun _ _ _ _ _ _ _ _ _ _ _ _ h => by cases h
def noLp : FuncId → LT := fun _ => noLoops
theorem noLp_ok (P : Program) (ρ : Env) : LPOk P ρ noLp := fun _ _ _ => noLoops_ok P ρ _ _
/-- a function of the program, from scratch. -/
def exec (P : Program) (cf : Cf) (fuel depth : Nat) (g : FuncId) (args : List V) : T (V × St) := match P.funcs[g]? with
  | some fn => if fn.name == "runtime.NumGoroutine" then .dead else dfun P (inl P cf fuel depth) (cf.lp g) (cf.mg g) fuel fn args 0 .nil []
  | none => .dead
theorem exec_ok {P : Program} {ρ : Env} (hm : P.follows .mixedOrders = true) {cf : Cf} (hcf : CfOk P cf) {fuel depth : Nat} {g : FuncId} {args : List V} {r : V} {s : St} (h : (exec P cf fuel depth g args).pick ρ = some (r, s)) (hok : okOk ρ s.ok) : Spec P ρ g args 0 no r s.n s.σ := by
  unfold exec at h
  split at h
  · rename_i fn hf
    split at h
    · cases h
    · rename_i hn
      exact (dfun_ok hm (inl_ok hm hcf fuel depth) (fun ρ => hcf.lp ρ g fn hf) hf (by simpa using hn) (fun x hx => by cases hx) h).2.2 hok
  · cases h
end Go.Proofs.YtmckhoaekbeijaaGreat.E
/- Results without names; laws. Plain Lean over the kit's model; no program. -/
namespace Go.Proofs.YtmckhoaekbeijaaGreat.E
open Go Go.RowKit
set_option linter.unusedVariables false

/-- a value that names nothing. -/
def V.closed (v : V) : Bool := v.inn fun _ => false
theorem R.closed {β β' : Bt} (hg : β.g.le β'.g) {v : V} {x : Value} (hv : v.closed = true) (h : R β v x) : R β' v x := R.names hg (p := fun _ => false) (fun _ h => by cases h) h hv
theorem F2.closed {β β' : Bt} (hg : β.g.le β'.g) {vs : List V} {xs : List Value} (hv : vs.all V.closed = true) (h : F2 (R β) vs xs) : F2 (R β') vs xs := by
  rw [List.all_eq_true] at hv
  exact h.mono_mem fun v x hm hr => hr.closed hg (hv v hm)
/-- a result by what stands where it points. -/
def V.var2 : V → Bool
  | .und | .tup _ => false
  | _ => true
theorem R.var2 {β : Bt} {v : V} {x : Value} (h : R β v x) (hv : v.var2 = true) : R2 β v x := R2.of h (by rintro rfl; cases hv) (by rintro vs rfl; cases hv)
def deepT (σ : Sto) (k : Nat) (v : V) : Option V := match v with
  | .tup vs => match deepsA σ k vs with
    | some us => if us.all V.var2 then some (.tup us) else none
    | none => none
  | v => deepA σ k v
theorem deepT_ok {ρ : Env} {n : Nat} {β β' : Bt} {σ : Sto} {w : World} (hS : Sim ρ n β σ w) {k : Nat} {v v' : V} {x : Value} (hg : β'.g = β.g) (h : deepT σ k v = some v') (hR : R β v x) : R β' v' x := by
  unfold deepT at h
  split at h
  · split at h
    · rename_i us hus
      split at h
      · rename_i hv
        cases h
        obtain ⟨xs, rfl, hF⟩ := (show R β (.tup _) x from hR)
        refine ⟨xs, rfl, ?_⟩
        rw [List.all_eq_true] at hv
        exact (deepsA_ok hS hg hus (hF.mono fun _ _ h => h.up)).mono_mem fun v x hm hr => hr.var2 (hv v hm)
      · cases h
    · cases h
  · exact deepA_ok hS hg h hR

/-- a contract whose arguments name nothing, for any number of names; its result by what stands where it points. -/
theorem Spec.shut {P : Program} {ρ : Env} {g : FuncId} {args : List V} {r r' : V} {n' k : Nat} {σ' : Sto} {D : List Nat} (h : Spec P ρ g args 0 no r n' σ') (ha : args.all V.closed = true) (hr : deepT (frz D σ') k r = some r') (m : Nat) : Spec P ρ g args m no r' m no := by
  refine ⟨h.there, fun β xs w hS hA => ?_⟩
  let β0 : Bt := ⟨β.g, fun _ => none⟩
  have nowr : ∀ (β : Bt) b, ¬ Wr β no b := fun β b ⟨_, _, _, e, _⟩ => by cases e
  have hS0 : Sim ρ 0 β0 no w := ⟨⟨hS.env, fun _ _ e => (by cases e), fun _ _ _ _ _ _ e => (by cases e), fun b cs hb => ⟨(hS.fzs b cs hb).1, nowr _ b, (hS.fzs b cs hb).2.2⟩, fun b c hb => ⟨(hS.kvs b c hb).1, nowr _ b⟩⟩, fun _ _ => rfl⟩
  refine (h.calls β0 xs w hS0 (F2.closed (β := β) (β' := β0) (Gm.le.refl _) ha hA)).mono ?_
  rintro e w' ⟨x, β1, he, hR, hS1, st⟩
  obtain ⟨β2, h1, h2, h3, h4, h5, h6⟩ := freeze_ok hS1 D
  have st2 := st.trans (h5 0)
  let β3 : Bt := ⟨β2.g, β.nm⟩
  refine ⟨x, β3, he, deepT_ok h4 rfl hr (hR.mono h3), ⟨⟨h4.env, fun _ _ e => (by cases e), fun _ _ _ _ _ _ e => (by cases e), fun b cs hb => ⟨(h4.fzs b cs hb).1, nowr _ b, (h4.fzs b cs hb).2.2⟩, fun b c hb => ⟨(h4.kvs b c hb).1, nowr _ b⟩⟩, hS.fresh⟩,
    ⟨⟨st2.le.g, fun id q _ hq => hq⟩, st2.os, st2.tape, st2.output, st2.size, fun b hb _ hk => st2.fr b hb (nowr _ b) hk, fun b hb => (nowr _ b hb).elim, fun b cs hb => ?_, fun b c hb => ?_⟩⟩
  · rcases st2.fzn b cs hb with h | h | h
    · exact .inl h
    · exact (nowr _ b h).elim
    · exact .inr (.inr h)
  · rcases st2.kvn b c hb with h | h | h
    · exact .inl h
    · exact (nowr _ b h).elim
    · exact .inr (.inr h)

/-! ### what is left to show -/
def T.map {α β : Type} (f : α → β) (t : T α) : T β := match t with
  | .leaf a => .leaf (f a)
  | .br b l r => .br b (l.map f) (r.map f)
  | .dead => .dead
/-- that it answers 'true', all along. -/
def want : T (V × St) → B
  | .leaf (.bool b, s) => mkAnd (andsB s.ok) b
  | .br c l r => mkAnd (mkImp c (want l)) (mkImp (mkNot c) (want r))
  | _ => .lit false
theorem want_ok {ρ : Env} : ∀ {t : T (V × St)}, (want t).den ρ = true → ∃ b s, t.pick ρ = some (.bool b, s) ∧ b.den ρ = true ∧ okOk ρ s.ok
  | .leaf (.bool b, s), h => by
    simp only [want, mkAnd_den, Bool.and_eq_true] at h
    exact ⟨b, s, rfl, h.2, (andsB_den ρ _).1 h.1⟩
  | .br c l r, h => by
    simp only [want, mkAnd_den, mkImp_den, mkNot_den, Bool.and_eq_true] at h
    cases hc : c.den ρ with
    | true =>
      rw [hc] at h
      obtain ⟨b, s, h1, h2⟩ := want_ok (t := l) (by simpa using h.1)
      exact ⟨b, s, by simp only [T.pick, hc, cond_true]; exact h1, h2⟩
    | false =>
      rw [hc] at h
      obtain ⟨b, s, h1, h2⟩ := want_ok (t := r) (by simpa using h.2)
      exact ⟨b, s, by simp only [T.pick, hc, cond_false]; exact h1, h2⟩
  | .dead, h => by simp [want, B.den] at h
  | .leaf (.und, s), h | .leaf (.sc _, s), h | .leaf (.int _ _, s), h | .leaf (.str _, s), h | .leaf (.ptr _ _ _ _, s), h | .leaf (.sl _ _ _ _ _ _, s), h | .leaf (.fs _ _, s), h | .leaf (.fe _ _ _ _, s), h
  | .leaf (.key _ _, s), h | .leaf (.opt _ _, s), h | .leaf (.agg _, s), h | .leaf (.tup _, s), h | .leaf (.fn _ _ _, s), h => by simp [want, B.den] at h
theorem exec_law {P : Program} {ρ : Env} (hm : P.follows .mixedOrders = true) {cf : Cf} (hcf : CfOk P cf) {fuel depth : Nat} {g : FuncId} {args : List V} {xs : List Value}
    (h : (want (exec P cf fuel depth g args)).den ρ = true) (W : World) (hA : F2 (R (allFz ρ W)) args xs) :
    Calls P g xs.toArray W (fun e W' => e = .returned (.bool true) ∧ Below W.heap.size W W') := by
  obtain ⟨b, s, h1, h2, h3⟩ := want_ok h
  exact (exec_ok hm hcf h1 h3).law h2 W hA

/-! ### contracts -/
structure Con where
  g : FuncId
  args : List V
  t : T (V × List B)
def ConOk (P : Program) (c : Con) : Prop := ∀ ρ r bs, c.t.pick ρ = some (r, bs) → okOk ρ bs → ∀ m, Spec P ρ c.g c.args m no r m no
def shutT (t : T (V × St)) : T (V × List B) := t.bind fun q => match deepT (frz (reach q.2.σ 1000 q.1.ids []) q.2.σ) 2000 q.1 with
  | some r => .leaf (r, q.2.ok)
  | none => .dead
theorem Con.ofExec {P : Program} (hm : P.follows .mixedOrders = true) {cf : Cf} (hcf : CfOk P cf) {fuel depth : Nat} {g : FuncId} {args : List V} {t : T (V × List B)}
    (ha : args.all V.closed = true) (h : shutT (exec P cf fuel depth g args) = t) : ConOk P ⟨g, args, t⟩ := by
  intro ρ r bs hp hb m
  rw [← h] at hp
  unfold shutT at hp
  obtain ⟨q, h1, h2⟩ := T.bind_some hp
  obtain ⟨r0, s⟩ := q
  simp only at h2
  split at h2
  · rename_i r1 hr
    simp only [T.pick, Option.some.injEq, Prod.mk.injEq] at h2
    obtain ⟨rfl, rfl⟩ := h2
    exact (exec_ok hm hcf h1 hb).shut ha hr m
  · cases h2

/-! ### a law's arguments -/
theorem open_num {P : Program} {w : World} {r : Reach} {b t : Nat} {k : IntKind} {v : Value} (ht : P.underlying t = some (.int k)) (h : Value.okWide P w r b t v) : ∃ n, v = .int k n ∧ k.has n := by
  simp only [Value.okWide, ht, Cell.okWide] at h
  cases v <;> simp [Cell.ok, ht] at h
  obtain ⟨rfl, h⟩ := h
  exact ⟨_, rfl, h⟩
theorem open_flag {P : Program} {w : World} {r : Reach} {b t : Nat} {v : Value} (ht : P.underlying t = some .bool) (h : Value.okWide P w r b t v) : ∃ n, v = .bool n := by
  simp only [Value.okWide, ht, Cell.okWide] at h
  cases v <;> simp [Cell.ok, ht] at h
  exact ⟨_, rfl⟩
/-- the cells of an aggregate of numbers of one kind. -/
theorem open_nums {P : Program} {w : World} {r : Reach} {b t N : Nat} {k : IntKind} {v : Value} (hag : isAg (P.underlying t) = true) (hN : P.cellsOf t = N) (hc : (match P.cellTypes P.depth t with
      | some ts => ts.length == N && Nat.blt 0 N && ts.all fun u => match P.underlying u with | some (.int k') => decide (k' = k) | _ => false
      | none => false) = true) (h : Value.okWide P w r b t v) :
    ∃ z : Nat → Int, v = .agg ((List.range N).map fun i => .int k (z i)).toArray ∧ ∀ i, i < N → k.has (z i) := by
  have h' : ∃ cs, v = .agg cs ∧ cs.size = P.cellsOf t ∧ Row.okWide P w r b t cs := by
    unfold Value.okWide at h
    cases hu : P.underlying t with
    | none => rw [hu] at hag; cases hag
    | some d => rw [hu] at h hag; cases d <;> first | exact h | cases hag
  obtain ⟨cs, rfl, hsz, ts, hts, _, hall⟩ := h'
  rw [hts] at hc
  simp only [Bool.and_eq_true, beq_iff_eq, List.all_eq_true] at hc
  obtain ⟨⟨hl, hpos⟩, hk⟩ := hc
  have cell : ∀ i, i < N → ∃ n, cs[i]? = some (.int k n) ∧ k.has n := by
    intro i hi
    have hi' : i < cs.size := by omega
    obtain ⟨u, hu, hok⟩ := hall i cs[i] (by simp [hi'])
    have hm := hk u (List.mem_of_getElem? hu)
    split at hm
    · rename_i k' hku
      have : k' = k := by simpa using hm
      subst this
      have hok' : ∃ n, cs[i] = .int k' n ∧ k'.has n := by
        revert hok
        simp only [Cell.okWide, hku]
        cases cs[i] <;> simp [Cell.ok, hku]
        intro e hn; subst e; exact ⟨_, ⟨rfl, rfl⟩, hn⟩
      obtain ⟨n, hn, hn2⟩ := hok'
      exact ⟨n, by simp [hi', hn], hn2⟩
    · cases hm
  refine ⟨fun i => match cs[i]? with | some (.int _ n) => n | _ => 0, ?_, ?_⟩
  · congr 1
    apply Array.ext'
    apply List.ext_getElem?
    intro i
    by_cases hi : i < N
    · obtain ⟨n, hn, _⟩ := cell i hi
      have hn' : cs.toList[i]? = some (.int k n) := by simpa using hn
      rw [hn']
      simp [hi, hn]
    · rw [List.getElem?_eq_none (by simp; omega), List.getElem?_eq_none (by simp; omega)]
  · intro i hi
    obtain ⟨n, hn, hn2⟩ := cell i hi
    simp only [hn]; exact hn2

/-- letters for numbers of one kind, from the o-th on. -/
def lets (k : IntKind) (o n : Nat) : List V := (List.range n).map fun i => .int k (.conv k (.var (o + i)))
theorem R_lets {β : Bt} {k : IntKind} {o n : Nat} {z : Nat → Int} (hz : ∀ i, i < n → k.has (z i)) (he : ∀ i, i < n → β.g.env.e (o + i) = z i) : R β (.agg (lets k o n)) (.agg ((List.range n).map fun i => .int k (z i)).toArray) :=
  ⟨_, rfl, by
    simpa [lets] using F2.map (r := R1 β) (fun i => V.int k (.conv k (.var (o + i)))) (fun i => Value.int k (z i)) (List.range n) fun i hi => by
      have hi' : i < n := by simpa using hi
      show Value.int k (z i) = .int k ((E.conv k (.var (o + i))).den β.g.env)
      simp only [E.den, he i hi', wrap_has (hz i hi')]⟩
theorem R_let {β : Bt} {k : IntKind} {o : Nat} {z : Int} (hz : k.has z) (he : β.g.env.e o = z) : R β (.int k (.conv k (.var o))) (.int k z) :=
  R.mkInt _ _ (by simp only [E.den, he, wrap_has hz])
theorem int_cases (z : Int) (b : Nat) : (∃ m, z = .negSucc m) ∨ (∃ i, i < b ∧ z = .ofNat i) ∨ (∃ m, z = .ofNat (m + b)) := by
  rcases z with n | n
  · by_cases h : n < b
    · exact .inr (.inl ⟨n, h, rfl⟩)
    · exact .inr (.inr ⟨n - b, by congr 1; omega⟩)
  · exact .inl ⟨n, rfl⟩
/-- no letters. -/
def env0 : Env := ⟨fun _ => 0, fun _ => [], fun _ => [], fun _ => false, 0⟩
end Go.Proofs.YtmckhoaekbeijaaGreat.E
/- Contracts used at calls. Plain Lean over the kit's model; no program. -/
namespace Go.Proofs.YtmckhoaekbeijaaGreat.E
open Go Go.RowKit
set_option linter.unusedVariables false

def mkSub (l : L) (n : Nat) : L := match lenLit l with
  | some m => if Nat.beq m n then l else .sub l 0 n
  | none => .sub l 0 n
def elemsL : L → Option (List E)
  | .nil => some []
  | .cons e l => match elemsL l with
    | some es => some (e :: es)
    | none => none
  | _ => none
theorem elemsL_ok (ρ : Env) : ∀ {l : L} {es : List E}, elemsL l = some es → l.den ρ = es.map (E.den ρ)
  | .nil, es, h => by cases h; rfl
  | .cons e l, es, h => by
    unfold elemsL at h
    split at h
    · rename_i es' hes
      cases h
      show e.den ρ :: l.den ρ = _
      rw [elemsL_ok ρ hes]; rfl
    · cases h
  | .var _, _, h | .at .., _, h | .cat .., _, h | .cut .., _, h | .sub .., _, h | .set .., _, h | .rep .., _, h | .byt .., _, h | .app .., _, h | .ite .., _, h | .join .., _, h => by cases h
theorem mkSub_den (ρ : Env) (l : L) (n : Nat) : (mkSub l n).den ρ = subL (l.den ρ) 0 n := by
  unfold mkSub
  split
  · rename_i m hm
    split
    · rename_i he
      have := Nat.eq_of_beq_eq_true he
      subst this
      have hl := lenLit_ok ρ hm
      have e : subL (l.den ρ) 0 m = (List.range m).map fun i => (l.den ρ).getD i 0 := by
        unfold subL
        refine List.map_congr_left fun i _ => ?_
        show (l.den ρ).getD (0 + i) 0 = _
        rw [Nat.zero_add]
      rw [e]
      refine (List.ext_getElem? fun i => ?_).symm
      rw [List.getElem?_map]
      by_cases hi : i < m
      · rw [List.getElem?_range hi]
        simp [List.getD, List.getElem?_eq_getElem (show i < (l.den ρ).length by omega)]
      · rw [List.getElem?_eq_none (by simpa using hi), List.getElem?_eq_none (by omega)]; rfl
    · rfl
  · rfl
/-- a row told number by number, all of one row from its beginning on. -/
def foldRun (l : L) : L := match elemsL l with
  | some (.get l' (.lit (.ofNat 0)) :: es) => if runOf l' 0 (.get l' (.lit (.ofNat 0)) :: es) then mkSub l' (es.length + 1) else l
  | _ => l
theorem foldRun_den (ρ : Env) (l : L) : (foldRun l).den ρ = l.den ρ := by
  unfold foldRun
  split
  · rename_i l' es h
    split
    · rename_i hr
      rw [elemsL_ok ρ h, mkSub_den]
      rw [runOf_den ρ l' 0 _ hr]
      unfold subL
      rfl
    · rfl
  · rfl
def fitB (c a : V) : V := match c, a with
  | .fs z (.ints k _), .sc (.slice none 0 0) => .fs z (.ints k .nil)
  | .fs _ (.ints k _), .fs z r => match r.asInts k with
    | some l => .fs z (.ints k (foldRun l))
    | none => .fs z r
  | .fs z (.recs _ _ [.fs _ (.ints k _)]), .sc (.slice none 0 0) => if Nat.beq z 1 then .fs 1 (.recs 1 (.lit 0) (tB k .nil)) else .sc (.slice none 0 0)
  | .fs _ (.recs _ _ [.fs _ (.ints k _)]), .fs z (.any cs) => if Nat.beq z 1 then match rowsB k cs with
      | some ls => .fs 1 (.recs 1 (mkCnt ls) (tB k ls))
      | none => .fs z (.any cs)
    else .fs z (.any cs)
  | .fs z (.recs _ _ (.int k _ :: _)), .sc (.slice none 0 0) => .fs z (.recs z (.lit 0) (tI k z .nil))
  | .fs _ (.recs _ _ (.int k _ :: _)), .fs z (.any cs) => match rowsI k z (cs.length / z) cs with
      | some ls => .fs z (.recs z (mkCnt ls) (tI k z ls))
      | none => .fs z (.any cs)
  | _, a => a
theorem F1_fs_row {γ : Gm} {z : Nat} {r r' : Row} {x : Value} (hr : ∀ xs, Fr r γ xs → Fr r' γ xs) (h : F1 (.fs z r) γ x) : F1 (.fs z r') γ x := by
  simp only [F1] at h ⊢
  obtain ⟨xs, n, c, ad, h1, h2, h3, h4, h5⟩ := h
  exact ⟨xs, n, c, ad, h1, h2, h3, hr xs h4, h5⟩
theorem F1_nil_row {γ : Gm} {z : Nat} {r : Row} {x : Value} (hr : Fr r γ []) (h : F1 (.sc (.slice none 0 0)) γ x) : F1 (.fs z r) γ x := by
  simp only [F1] at h ⊢
  obtain ⟨rfl, _⟩ := h
  exact ⟨[], 0, 0, none, rfl, by simp, Nat.le_refl _, hr, .inl ⟨rfl, rfl⟩⟩
theorem fitB_F1 {γ : Gm} {c a : V} {x : Value} (h : F1 a γ x) : F1 (fitB c a) γ x := by
  unfold fitB
  split
  · exact F1_nil_row (by simp [Fr, L.den]) h
  · split
    · rename_i l hl
      exact F1_fs_row (fun xs hf => by simp only [Fr]; rw [foldRun_den]; exact Row.asInts_fr hf hl) h
    · exact h
  · split
    · exact F1_nil_row (by simp [Fr, E.den]) h
    · exact h
  · split
    · rename_i hz
      obtain rfl := Nat.eq_of_beq_eq_true hz
      split
      · rename_i ls hls
        exact F1_fs_row (fun xs hf => Fr_tB hls (by simpa only [Fr] using hf)) h
      · exact h
    · exact h
  · exact F1_nil_row (by simp [Fr, E.den]) h
  · split
    · rename_i ls hls
      exact F1_fs_row (fun xs hf => Fr_tI hls (by simpa only [Fr] using hf)) h
    · exact h
  · exact h
theorem fitB_id {c a : V} (h : ∀ x, a ≠ .sc x) (h' : ∀ z r, a ≠ .fs z r) : fitB c a = a := by
  unfold fitB
  split <;> first
    | rfl
    | exact (h _ rfl).elim
    | exact (h' _ _ rfl).elim
def fitsB : List V → List V → List V
  | c :: cs, a :: as => fitB c a :: fitsB cs as
  | _, as => as
theorem fitsB_Fs {γ : Gm} : ∀ {cs as : List V} {xs : List Value}, Fs as γ xs → Fs (fitsB cs as) γ xs
  | [], as, xs, h => by unfold fitsB; exact h
  | c :: cs, [], xs, h => h
  | c :: cs, a :: as, [], h => by unfold Fs at h; exact h.elim
  | c :: cs, a :: as, x :: xs, h => by
    unfold Fs at h
    show Fs (fitB c a :: fitsB cs as) γ (x :: xs)
    unfold Fs
    exact ⟨fitB_F1 h.1, fitsB_Fs h.2⟩
/-- rows of rows as well. -/
def fit0 (c a : V) : V := match c, a with
  | .fs _ (.any cs), .fs z (.any as) => .fs z (.any (fitsB cs as))
  | c, a => fitB c a
theorem fit0_F1 {γ : Gm} {c a : V} {x : Value} (h : F1 a γ x) : F1 (fit0 c a) γ x := by
  unfold fit0
  split
  · exact F1_fs_row (fun xs hf => by simp only [Fr] at hf ⊢; exact fitsB_Fs hf) h
  · exact fitB_F1 h
theorem fit0_id {c a : V} (h : ∀ x, a ≠ .sc x) (h' : ∀ z r, a ≠ .fs z r) : fit0 c a = a := by
  unfold fit0
  split
  · exact (h' _ _ rfl).elim
  · exact fitB_id h h'
theorem fit0_R0 {β : Bt} {c a : V} {x : Value} (h : R0 β a x) : R0 β (fit0 c a) x := by
  cases a with
  | sc y =>
    have := fit0_F1 (c := c) (show F1 (.sc y) β.g x from h)
    exact this.up
  | fs z r =>
    have := fit0_F1 (c := c) (show F1 (.fs z r) β.g x from h)
    exact this.up
  | _ => rw [fit0_id (fun _ e => by cases e) (fun _ _ e => by cases e)]; exact h
theorem fit0_R1 {β : Bt} {c a : V} {x : Value} (h : R1 β a x) : R1 β (fit0 c a) x := by
  cases a with
  | sc y => exact (fit0_R0 (show R0 β (.sc y) x from h)).up
  | fs z r => exact (fit0_R0 (show R0 β (.fs z r) x from h)).up
  | _ => rw [fit0_id (fun _ e => by cases e) (fun _ _ e => by cases e)]; exact h
def fits0 : List V → List V → List V
  | c :: cs, a :: as => fit0 c a :: fits0 cs as
  | _, as => as
theorem fits0_ok {β : Bt} : ∀ {cs as : List V} {xs : List Value}, F2 (R1 β) as xs → F2 (R1 β) (fits0 cs as) xs
  | [], as, xs, h => by unfold fits0; exact h
  | c :: cs, [], xs, h => h
  | c :: cs, a :: as, [], h => h
  | c :: cs, a :: as, x :: xs, h => ⟨fit0_R1 h.1, fits0_ok h.2⟩
def fitA (c a : V) : V := match a with
  | .agg as => match c with
    | .agg cs => .agg (fits0 cs as)
    | _ => .agg as
  | a => fit0 c a
theorem fitA_ok {β : Bt} {c a : V} {x : Value} (h : R β a x) : R β (fitA c a) x := by
  unfold fitA
  split
  · split
    · obtain ⟨xs, e, hF⟩ := (show R2 β (.agg _) x from h)
      exact ⟨xs, e, fits0_ok hF⟩
    · exact h
  · rename_i hne
    cases a with
    | sc y => exact (fit0_R0 (show R0 β (.sc y) x from h)).toR
    | fs z r => exact (fit0_R0 (show R0 β (.fs z r) x from h)).toR
    | agg as => exact (hne _ rfl).elim
    | _ => rw [fit0_id (fun _ e => by cases e) (fun _ _ e => by cases e)]; exact h
def fitsA : List V → List V → List V
  | c :: cs, a :: as => fitA c a :: fitsA cs as
  | _, as => as
theorem fitsA_ok {β : Bt} : ∀ {cs as : List V} {xs : List Value}, F2 (R β) as xs → F2 (R β) (fitsA cs as) xs
  | [], as, xs, h => by unfold fitsA; exact h
  | c :: cs, [], xs, h => h
  | c :: cs, a :: as, [], h => h
  | c :: cs, a :: as, x :: xs, h => ⟨fitA_ok h.1, fitsA_ok h.2⟩

/-! ### what stands for which letter -/
def putAt {α : Type} (d : α) : List α → Nat → α → List α
  | [], 0, x => [x]
  | [], i + 1, x => d :: putAt d [] i x
  | _ :: l, 0, x => x :: l
  | a :: l, i + 1, x => a :: putAt d l i x
/-- letters, and rows whose elements come one at a time. -/
structure Mt where
  s : Sub
  rv : List (List E)
def pushRv : List (List E) → Nat → E → List (List E)
  | [], 0, x => [[x]]
  | [], i + 1, x => [] :: pushRv [] i x
  | r :: l, 0, x => (x :: r) :: l
  | r :: l, i + 1, x => r :: pushRv l i x
/-- as one row, where they are all of it. -/
def rowOf (es : List E) : L := match es with
  | .get l (.lit (.ofNat 0)) :: _ => if runOf l 0 es then mkSub l es.length else consL es
  | es => consL es
def putRvs : Nat → List (List E) → List L → List L
  | _, [], ls => ls
  | j, [] :: rv, ls => putRvs (j + 1) rv ls
  | j, (e :: r) :: rv, ls => putRvs (j + 1) rv (putAt .nil ls j (rowOf (e :: r).reverse))
def Mt.done (m : Mt) : Sub := { m.s with l := putRvs 0 m.rv m.s.l }
def mt0 : Mt := ⟨⟨[], [], [], [], .ix⟩, []⟩
def matE (c a : E) (m : Mt) : Mt := match c with
  | .var i => { m with s := { m.s with e := putAt (.lit 0) m.s.e i a } }
  | .conv _ (.var i) => { m with s := { m.s with e := putAt (.lit 0) m.s.e i a } }
  | .get (.var j) _ => { m with rv := pushRv m.rv j a }
  | .get (.at (.var j) _) _ => match a with
    | .get (.at l _) _ => { m with s := { m.s with ll := putAt .nil m.s.ll j l } }
    | _ => m
  | _ => m
def matL : L → L → Mt → Mt
  | .var i, a, m => { m with s := { m.s with l := putAt .nil m.s.l i a } }
  | .byt (.var i), a, m => { m with s := { m.s with l := putAt .nil m.s.l i a } }
  | .cons e l, .cons e' l', m => matL l l' (matE e e' m)
  | .sub (.var i) 0 _, a, m => { m with s := { m.s with l := putAt .nil m.s.l i a } }
  | .at (.var j) _, .at l _, m => { m with s := { m.s with ll := putAt .nil m.s.ll j l } }
  | .app 60 (.var i) _, .app 60 a _, m => { m with s := { m.s with l := putAt .nil m.s.l i a } }
  | _, _, m => m
/-- a truth as a number that is 1 where it holds. -/
def unB : B → E
  | .eq x (.lit (.ofNat 1)) => x
  | b => mkOfB b
def matB (c a : B) (m : Mt) : Mt := match c with
  | .var i => { m with s := { m.s with b := putAt (.lit false) m.s.b i a } }
  | .eq (.get (.var j) _) _ => { m with rv := pushRv m.rv j (unB a) }
  | _ => m
mutual
def V.mat (c : V) (a : V) (s : Mt) : Mt := match c, a with
  | .int _ e, .int _ e' => matE e e' s
  | .bool b, .bool b' => matB b b' s
  | .str l, .str l' => matL l l' s
  | .fs _ r, .fs _ r' => Row.mat r r' s
  | .fe r _ _ _, .fe r' _ _ _ => Row.mat r r' s
  | .sl _ _ off len _ _, .sl _ _ off' len' _ _ => matE len len' (matE off off' s)
  | .key _ e, .key _ e' => matE e e' s
  | .opt b v, .opt b' v' => V.mat v v' (matB b b' s)
  | .agg cs, .agg as => V.mats cs as s
  | _, _ => s
termination_by structural c
def V.mats (cs as : List V) (s : Mt) : Mt := match cs, as with
  | c :: cs, a :: as => V.mats cs as (V.mat c a s)
  | _, _ => s
termination_by structural cs
def Row.mat (c a : Row) (s : Mt) : Mt := match c, a with
  | .any cs, .any as => V.mats cs as s
  | .ints _ l, .ints _ l' => matL l l' s
  | .recs _ n t, .recs _ n' t' => V.mats t t' (matE n n' s)
  | _, _ => s
termination_by structural c
end

/-! ### the table -/
def askT (s : Sub) (mu : List (Nat × Option Ob)) : T (V × List B) → Kn → T CR
  | .leaf q, kn => .leaf (q.1.sub s, [], (bif (q.1.sub s).nofz then [] else mu), q.2.map (·.sub s), kn)
  | .br c l r, kn => ask (c.sub s) kn fun t kn => bif t then askT s mu l kn else askT s mu r kn
  | .dead, _ => .dead
theorem askT_ok {ρ : Env} {s : Sub} (hs : s.nix) {mu : List (Nat × Option Ob)} : ∀ {t : T (V × List B)} {kn : Kn} {r' : V} {news : List (Option Ob)} {muts : List (Nat × Option Ob)} {bs' : List B} {kn' : Kn}, knOk ρ kn → (askT s mu t kn).pick ρ = some (r', news, muts, bs', kn') →
    knOk ρ kn' ∧ ∃ r bs, t.pick (ρ.sub s) = some (r, bs) ∧ r' = r.sub s ∧ news = [] ∧ muts = (bif (r.sub s).nofz then [] else mu) ∧ bs' = bs.map (·.sub s)
  | .leaf q, kn, r', news, muts, bs', kn', hk, h => by
    simp only [askT, T.pick, Option.some.injEq, Prod.mk.injEq] at h
    obtain ⟨rfl, rfl, rfl, rfl, rfl⟩ := h
    exact ⟨hk, q.1, q.2, rfl, rfl, rfl, rfl, rfl⟩
  | .br c l r, kn, r', news, muts, bs', kn', hk, h => by
    unfold askT at h
    obtain ⟨kn1, h1, h2⟩ := ask_ok (c.sub s) (k := fun t kn => bif t then askT s mu l kn else askT s mu r kn) hk
    rw [h2, B.sub_den hs] at h
    cases hc : c.den (ρ.sub s) with
    | true =>
      rw [hc] at h
      simp only [T.pick, hc, cond_true]
      exact askT_ok hs h1 h
    | false =>
      rw [hc] at h
      simp only [T.pick, hc, cond_false]
      exact askT_ok hs h1 h
  | .dead, _, _, _, _, _, _, _, h => by cases h

theorem Spec.weak {P : Program} {ρ : Env} {g : FuncId} {args args' : List V} {r : V} {n n' : Nat} {σ σ' : Sto} (h : Spec P ρ g args' n σ r n' σ') (ha : ∀ (β : Bt) xs, F2 (R β) args xs → F2 (R β) args' xs) : Spec P ρ g args n σ r n' σ' :=
  ⟨h.there, fun β xs w hS hA => h.calls β xs w hS (ha β xs hA)⟩
theorem Spec.fewer {P : Program} {ρ : Env} {g : FuncId} {args : List V} {r : V} {n n' : Nat} {σ σ' σ'' : Sto} (h : Spec P ρ g args n σ r n' σ') (hs : (∀ id o, σ id = some o → id < n) → σ''.le σ') : Spec P ρ g args n σ r n' σ'' :=
  ⟨h.there, fun β xs w hS hA => (h.calls β xs w hS hA).mono fun e w' ⟨x, β', he, hR, hS', st⟩ =>
    have hl := hs fun id o ho => by obtain ⟨q, hq, _⟩ := hS.ob id o ho; exact hS.lt hq
    ⟨x, β', he, hR, hS'.drop hl, st.dropEnd hl⟩⟩

/-! lent in part -/
/-- off and len, as one number. -/
def hiX (off len : E) : Option E := match hiE off len with
  | some e => some e
  | none => some (.len (.cat (.rep off (.lit 0)) (.rep len (.lit 0))))
theorem hiX_ok {ρ : Env} {off len e : E} (h : hiX off len = some e) : (e.den ρ).toNat = (off.den ρ).toNat + (len.den ρ).toNat := by
  unfold hiX at h
  split at h
  · rename_i e' he
    cases h; exact hiE_ok he
  · cases h
    show (((List.replicate (off.den ρ).toNat (0 : Int) ++ List.replicate (len.den ρ).toNat (0 : Int)).length : Nat) : Int).toNat = _
    rw [List.length_append, List.length_replicate, List.length_replicate, Int.toNat_natCast]
/-- an argument that is a part of a row of numbers. -/
def cutArg0 (σ : Sto) (v : V) : Option (V × List B) := match v with
  | .sl id 0 off len 1 _ => match σ id with
    | some ob => if ob.rw then none else match hiX off len with
      | some hi => match ob.row with
        | .ints k l => match (Row.ints k l).cut 1 off hi with
          | some (.ints k' l', bs) => some (.fs 1 (.ints k' l'), bs)
          | _ => none
        | _ => none
      | none => none
    | none => none
  | v => (deepA σ 2000 v).map fun v => (v, [])
theorem cutArg0_ok {ρ : Env} {n : Nat} {β : Bt} {σ : Sto} {w : World} (hS : Sim ρ n β σ w) {v v' : V} {bs : List B} {x : Value} (h : cutArg0 σ v = some (v', bs)) (hb : okOk ρ bs) (hR : R β v x) : R β v' x := by
  unfold cutArg0 at h
  split at h
  · rename_i id off len top
    split at h
    · rename_i ob hob
      split at h
      · cases h
      · rename_i hrw
        split at h
        · rename_i hi hhi
          split at h
          · rename_i k l hrow
            split at h
            · rename_i k' l' bs' hcut
              cases h
              obtain ⟨q0, hq0, hok⟩ := hS.ob id ob hob
              obtain ⟨q, hq, hl0, hcase⟩ := (show R0 β (.sl id 0 off len 1 top) x from hR)
              obtain rfl : q0 = q := Option.some.inj (hq0.symm.trans hq)
              have hh := hiX_ok (ρ := β.g.env) hhi
              have hb' : ∀ b ∈ bs, b.den β.g.env = true := by rw [hS.env]; exact hb
              show F1 (.fs 1 (.ints k' l')) β.g x
              simp only [F1]
              rcases hcase with ⟨p, d, c, rfl, rfl, hd, hlc, htop⟩ | ⟨rfl, _, hof, hle, ad, rfl⟩
              · obtain ⟨hlt, cur, xs, rest, fz, hg, hsz, hcur, hRH, _, hfz⟩ := hok
                rw [hrow] at hRH
                obtain ⟨k1, k2, k3, k4⟩ := Row.cut_rh hRH hcut hb'
                have hxl : ((xs.take ((hi.den β.g.env).toNat * 1)).drop ((off.den β.g.env).toNat * 1)).length = (len.den β.g.env).toNat * 1 := by
                  rw [List.length_drop, List.length_take, Nat.min_eq_left k4, hh, Nat.add_mul]; omega
                refine ⟨_, _, c, _, rfl, hxl.symm, hlc, k1, .inr ⟨p.b, d, rfl, ?_⟩⟩
                by_cases hm : (len.den β.g.env).toNat = 0
                · exact .inl hm
                · right
                  have hd' : d = (off.den β.g.env).toNat * 1 := by rcases hd with h | ⟨h, _⟩; omega; exact (hm h).elim
                  refine ⟨cur, hfz (by simpa using hrw), ?_⟩
                  rw [hxl, hd', hcur, List.drop_append_of_le_length (by rw [hh, Nat.add_mul] at k4; omega), List.take_append_of_le_length (by rw [hh, Nat.add_mul] at k4; simp; omega), hh, Nat.add_mul, List.drop_take, Nat.add_sub_cancel_left]
              · have hRH : RH β ob.row [] := hok
                rw [hrow] at hRH
                obtain ⟨k1, k2, k3, k4⟩ := Row.cut_rh hRH hcut hb'
                simp only [List.take_nil, List.drop_nil] at k1
                refine ⟨[], 0, 0, ad, rfl, by simp, Nat.le_refl _, k1, ?_⟩
                exact .inl ⟨rfl, rfl⟩
            · cases h
          · cases h
        · cases h
    · cases h
  · obtain ⟨v1, h1, h2⟩ := Option.map_eq_some_iff.1 h
    cases h2
    exact deepA_ok hS rfl h1 hR
/-- is it of one cell? -/
def V.isCell : V → Bool
  | .agg _ | .tup _ | .und => false
  | _ => true
theorem R.toR1 {β : Bt} {v : V} {x : Value} (h : R β v x) (hv : v.isCell = true) : R1 β v x := by
  cases v with
  | agg cs => cases hv
  | tup cs => cases hv
  | und => cases hv
  | _ => exact h
def cutCells (σ : Sto) : List V → Option (List V × List B)
  | [] => some ([], [])
  | v :: l => match cutArg0 σ v, cutCells σ l with
    | some (u, bs), some (us, cs) => if u.isCell && v.isCell then some (u :: us, bs ++ cs) else none
    | _, _ => none
theorem cutCells_ok {ρ : Env} {n : Nat} {β : Bt} {σ : Sto} {w : World} (hS : Sim ρ n β σ w) : ∀ {vs vs' : List V} {bs : List B} {xs : List Value}, cutCells σ vs = some (vs', bs) → okOk ρ bs → F2 (R1 β) vs xs → F2 (R1 β) vs' xs
  | [], vs', bs, [], h, _, _ => by cases h; trivial
  | v :: l, vs', bs, x :: xs, h, hb, hF => by
    unfold cutCells at h
    split at h
    · rename_i v1 bs1 l1 cs1 h1 h2
      split at h
      · rename_i hc
        cases h
        simp only [Bool.and_eq_true] at hc
        exact ⟨R.toR1 (cutArg0_ok hS h1 (fun b hm => hb b (List.mem_append_left _ hm)) hF.1.up.up) hc.1, cutCells_ok hS h2 (fun b hm => hb b (List.mem_append_right _ hm)) hF.2⟩
      · cases h
    · cases h
  | [], _, _, _ :: _, _, _, hF => hF.elim
  | _ :: _, _, _, [], _, _, hF => hF.elim
def cutArg (σ : Sto) (v : V) : Option (V × List B) := match v with
  | .agg cs => match deepA σ 2000 (.agg cs) with
    | some v => some (v, [])
    | none => match cutCells σ cs with
      | some (us, bs) => some (.agg us, bs)
      | none => none
  | v => cutArg0 σ v
theorem cutArg_ok {ρ : Env} {n : Nat} {β : Bt} {σ : Sto} {w : World} (hS : Sim ρ n β σ w) {v v' : V} {bs : List B} {x : Value} (h : cutArg σ v = some (v', bs)) (hb : okOk ρ bs) (hR : R β v x) : R β v' x := by
  unfold cutArg at h
  split at h
  · split at h
    · rename_i v1 h1
      cases h
      exact deepA_ok hS rfl h1 hR
    · split at h
      · rename_i us bs' h2
        cases h
        obtain ⟨xs, rfl, hf⟩ := (show R2 β (.agg _) x from hR)
        exact ⟨xs, rfl, cutCells_ok hS h2 hb hf⟩
      · cases h
  · exact cutArg0_ok hS h hb hR
def cutArgs (σ : Sto) : List V → Option (List V × List B)
  | [] => some ([], [])
  | v :: l => match cutArg σ v, cutArgs σ l with
    | some (v, bs), some (l, cs) => some (v :: l, bs ++ cs)
    | _, _ => none
theorem cutArgs_ok {ρ : Env} {n : Nat} {β : Bt} {σ : Sto} {w : World} (hS : Sim ρ n β σ w) : ∀ {vs vs' : List V} {bs : List B} {xs : List Value}, cutArgs σ vs = some (vs', bs) → okOk ρ bs → F2 (R β) vs xs → F2 (R β) vs' xs
  | [], vs', bs, [], h, _, _ => by cases h; trivial
  | v :: l, vs', bs, x :: xs, h, hb, hF => by
    unfold cutArgs at h
    split at h
    · rename_i v1 bs1 l1 cs1 h1 h2
      cases h
      exact ⟨cutArg_ok hS h1 (fun b hm => hb b (List.mem_append_left _ hm)) hF.1, cutArgs_ok hS h2 (fun b hm => hb b (List.mem_append_right _ hm)) hF.2⟩
    · cases h
  | [], _, _, _ :: _, _, _, hF => hF.elim
  | _ :: _, _, _, [], _, _, hF => hF.elim
def Con.use (c : Con) (args : List V) (σ : Sto) (kn : Kn) : Option (T CR) :=
  let D := reach σ 1000 (args.flatMap V.ids) []
  match deepsA (frz D σ) 2000 args with
  | none => none
  | some ds =>
    let es := fitsA c.args ds
    let s := (V.mats c.args es mt0).done
    if s.noix && V.sames (V.subs c.args s) es then some (askT s (D.map fun id => (id, frz D σ id)) c.t kn) else none
theorem Con.use_ok {P : Program} {ρ : Env} {c : Con} (hc : ConOk P c) {args : List V} {n : Nat} {σ : Sto} {kn : Kn} {t : T CR} {r : V} {news : List (Option Ob)} {muts : List (Nat × Option Ob)} {bs : List B} {kn' : Kn} (hk : knOk ρ kn)
    (h : c.use args σ kn = some t) (hp : t.pick ρ = some (r, news, muts, bs, kn')) : knOk ρ kn' ∧ (okOk ρ bs → Spec P ρ c.g args n σ r (n + news.length) (ext n σ news muts)) := by
  unfold Con.use at h
  simp only at h
  generalize hD : reach σ 1000 (args.flatMap V.ids) [] = D at h
  split at h
  · cases h
  · rename_i ds hds
    generalize hes : fitsA c.args ds = es at h
    generalize (V.mats c.args es mt0).done = s at h
    split at h
    · rename_i hcnd
      simp only [Bool.and_eq_true] at hcnd
      cases h
      have hsn := Sub.noix_ok hcnd.1
      obtain ⟨h1, r0, bs0, h2, rfl, rfl, rfl, rfl⟩ := askT_ok hsn hk hp
      refine ⟨h1, fun hok => ?_⟩
      have hok' : okOk (ρ.sub s) bs0 := fun b hb => by
        rw [← B.sub_den hsn]; exact hok _ (List.mem_map.2 ⟨b, hb, rfl⟩)
      have k1 := (hc (ρ.sub s) r0 bs0 h2 hok' n).sub hsn
      rw [V.sames_ok hcnd.2] at k1
      have k2 : Spec P ρ c.g ds n no (r0.sub s) n no := k1.weak fun β xs hF => by rw [← hes]; exact fitsA_ok hF
      cases hz : (r0.sub s).nofz with
      | true =>
        have k3 := k2.lend hds hz (fun _ _ e => by cases e)
        refine k3.fewer fun hlt id o ho => ?_
        rw [cond_true, ext_nil] at ho
        have := hlt id o ho
        unfold Sto.over
        rw [if_neg (by simp; omega), if_neg (by simp [no])]
        exact ho
      | false =>
        have k3 := k2.give hds
        refine k3.fewer fun hlt id o ho => ?_
        unfold ext at ho
        rw [if_neg (by simp [Nat.blt]; omega), cond_false, find_map] at ho
        have hl : id < n := by
          split at ho
          · rename_i x hx
            split at hx
            · cases hx
              cases e : σ id with
              | none => unfold frz at ho; rw [e] at ho; split at ho <;> cases ho
              | some o' => exact hlt id o' e
            · cases hx
          · exact hlt id o ho
        unfold Sto.over
        rw [if_neg (by simp; omega), if_neg (by simp [no])]
        split at ho
        · rename_i x hx
          split at hx
          · cases hx; exact ho
          · cases hx
        · rename_i hx
          split at hx
          · cases hx
          · rename_i hd
            unfold frz
            rw [if_neg hd]; exact ho
    · cases h
def Con.useC (c : Con) (args : List V) (σ : Sto) (kn : Kn) : Option (T CR) :=
  let D := reach σ 1000 (args.flatMap V.ids) []
  match cutArgs (frz D σ) args with
  | none => none
  | some (ds, bs1) =>
    let es := fitsA c.args ds
    let s := (V.mats c.args es mt0).done
    if s.noix && V.sames (V.subs c.args s) es then some ((askT s (D.map fun id => (id, frz D σ id)) c.t kn).bind fun z => .leaf (z.1, z.2.1, z.2.2.1, bs1 ++ z.2.2.2.1, z.2.2.2.2)) else none
theorem Con.useC_ok {P : Program} {ρ : Env} {c : Con} (hc : ConOk P c) {args : List V} {n : Nat} {σ : Sto} {kn : Kn} {t : T CR} {r : V} {news : List (Option Ob)} {muts : List (Nat × Option Ob)} {bs : List B} {kn' : Kn} (hk : knOk ρ kn)
    (h : c.useC args σ kn = some t) (hp : t.pick ρ = some (r, news, muts, bs, kn')) : knOk ρ kn' ∧ (okOk ρ bs → Spec P ρ c.g args n σ r (n + news.length) (ext n σ news muts)) := by
  unfold Con.useC at h
  simp only at h
  generalize hD : reach σ 1000 (args.flatMap V.ids) [] = D at h
  split at h
  · cases h
  · rename_i ds bs1 hds
    generalize hes : fitsA c.args ds = es at h
    generalize (V.mats c.args es mt0).done = s at h
    split at h
    · rename_i hcnd
      simp only [Bool.and_eq_true] at hcnd
      cases h
      have hsn := Sub.noix_ok hcnd.1
      obtain ⟨⟨rq, newsq, mutsq, bsq, knq⟩, hp0, hzq⟩ := T.bind_some hp
      cases hzq
      obtain ⟨h1, r0, bs0, h2, rfl, rfl, rfl, rfl⟩ := askT_ok hsn hk hp0
      refine ⟨h1, fun hokA => ?_⟩
      have hok1 : okOk ρ bs1 := fun b hb => hokA b (List.mem_append_left _ hb)
      have hok := fun b hb => hokA b (List.mem_append_right bs1 hb)
      have hok' : okOk (ρ.sub s) bs0 := fun b hb => by
        rw [← B.sub_den hsn]; exact hok _ (List.mem_map.2 ⟨b, hb, rfl⟩)
      have k1 := (hc (ρ.sub s) r0 bs0 h2 hok' n).sub hsn
      rw [V.sames_ok hcnd.2] at k1
      have k2 : Spec P ρ c.g ds n no (r0.sub s) n no := k1.weak fun β xs hF => by rw [← hes]; exact fitsA_ok hF
      cases hz : (r0.sub s).nofz with
      | true =>
        have k3 := k2.lendG (fun β1 w xs h4 hA => cutArgs_ok h4 hds hok1 hA) hz (fun _ _ e => by cases e)
        refine k3.fewer fun hlt id o ho => ?_
        rw [cond_true, ext_nil] at ho
        have := hlt id o ho
        unfold Sto.over
        rw [if_neg (by simp; omega), if_neg (by simp [no])]
        exact ho
      | false =>
        have k3 := k2.giveG (fun β1 w xs h4 hA => cutArgs_ok h4 hds hok1 hA)
        refine k3.fewer fun hlt id o ho => ?_
        unfold ext at ho
        rw [if_neg (by simp [Nat.blt]; omega), cond_false, find_map] at ho
        have hl : id < n := by
          split at ho
          · rename_i x hx
            split at hx
            · cases hx
              cases e : σ id with
              | none => unfold frz at ho; rw [e] at ho; split at ho <;> cases ho
              | some o' => exact hlt id o' e
            · cases hx
          · exact hlt id o ho
        unfold Sto.over
        rw [if_neg (by simp; omega), if_neg (by simp [no])]
        split at ho
        · rename_i x hx
          split at hx
          · cases hx; exact ho
          · cases hx
        · rename_i hx
          split at hx
          · cases hx
          · rename_i hd
            unfold frz
            rw [if_neg hd]; exact ho
    · cases h
def tabC : List Con → TT
  | [] => noTab
  | c :: cs => fun g args n σ kn => if Nat.beq c.g g then (match c.use args σ kn with
      | some t => some t
      | none => match c.useC args σ kn with
        | some t => some t
        | none => tabC cs g args n σ kn)
    else tabC cs g args n σ kn
theorem tabC_ok {P : Program} {ρ : Env} : ∀ {cs : List Con}, (∀ c ∈ cs, ConOk P c) → TTOk P ρ (tabC cs)
  | [], _ => noTab_ok P ρ
  | c :: cs, h => by
    intro g args n σ kn t r news muts bs kn' hk ht hp
    have ih := tabC_ok (P := P) (ρ := ρ) (cs := cs) fun c hc => h c (by simp [hc])
    unfold tabC at ht
    split at ht
    · rename_i hg
      have := Nat.eq_of_beq_eq_true hg
      subst this
      split at ht
      · rename_i t' ht'
        cases ht
        exact Con.use_ok (h c (by simp)) hk ht' hp
      · split at ht
        · rename_i t' ht'
          cases ht
          exact Con.useC_ok (h c (by simp)) hk ht' hp
        · exact ih _ args n σ kn t r news muts bs kn' hk ht hp
    · exact ih g args n σ kn t r news muts bs kn' hk ht hp
/-- a contract's result in other words. -/
theorem Con.alt {P : Program} {g : FuncId} {args : List V} {t t' : T (V × List B)} (h : ConOk P ⟨g, args, t⟩)
    (he : ∀ ρ r' bs', t'.pick ρ = some (r', bs') → okOk ρ bs' → ∃ r bs, t.pick ρ = some (r, bs) ∧ okOk ρ bs ∧ V.imp ρ r r') : ConOk P ⟨g, args, t'⟩ := by
  intro ρ r' bs' hp hb m
  obtain ⟨r, bs, h1, h2, h3⟩ := he ρ r' bs' hp hb
  exact (h ρ r bs h1 h2 m).imp h3
end Go.Proofs.YtmckhoaekbeijaaGreat.E
/- What loops do, told once and used. Plain Lean over the kit's model; no program. -/
namespace Go.Proofs.YtmckhoaekbeijaaGreat.E
open Go Go.RowKit
set_option linter.unusedVariables false

def frOf : List (Nat × V) → Tr V
  | [] => .nil
  | p :: l => (frOf l).put p.1 (some p.2)
def obOf : List (Nat × Ob) → Tr Ob
  | [] => .nil
  | p :: l => (obOf l).put p.1 (some p.2)
/-- a state, from lists. -/
def stOf (fr : List (Nat × V)) (n : Nat) (ob : List (Nat × Ob)) (ok : List B) (kn : Kn) : St := ⟨frOf fr, n, obOf ob, ok, kn⟩
structure LRes where
  o : Out
  fr : List (Nat × V)
  n : Nat
  ob : List (Nat × Ob)
  ok : List B
/-- a loop: the slots that it writes; slots, first free name, objects before; what it gives. -/
structure LCon where
  g : FuncId
  id : Nat
  ds : List Tmp
  fr : List (Nat × V)
  n : Nat
  ob : List (Nat × Ob)
  t : T LRes
def theLoop (P : Program) (g : FuncId) (id : Nat) : Option (Nat × Code) := match P.funcs[g]? with
  | some fn => match (bodyLoops fn).filter (fun a => regId a == some id) with
    | [a] => some (fn.ntmps, a)
    | _ => none
  | none => none
def LConOk (P : Program) (c : LCon) : Prop := ∃ nt a, theLoop P c.g c.id = some (nt, a) ∧ (∀ t, (dsts a).contains t = true → c.ds.contains t = true) ∧ ∀ ρ r, c.t.pick ρ = some r → c.n ≤ r.n ∧ (okOk ρ r.ok → ∃ k, TR P ρ c.n nt a k (fmOf (frOf c.fr)) c.n (obOf c.ob).get r.o (fmOf (frOf r.fr)) r.n (obOf r.ob).get)

/-! ### use -/
def fitR0 (c r : Row) : Row := match c with
  | .ints k _ => match r.asInts k with
    | some l => .ints k l
    | none => r
  | _ => r
theorem fitR0_ok {ρ : Env} {c r : Row} : Row.imp ρ r (fitR0 c r) := by
  intro β xs e h
  unfold fitR0
  split
  · split
    · rename_i l hl
      exact RH.ofFr (show Fr (.ints _ l) β.g xs by simp only [Fr]; exact Row.asInts_ok h hl)
    · exact h
  · exact h
/-- the rows that stand in these objects. -/
def rowsOf (σ : Sto) : List (Nat × Ob) → Option (List Row)
  | [] => some []
  | p :: l => match σ p.1 with
    | some o => if (o.rw == p.2.rw) && Nat.beq o.e p.2.e then match rowsOf σ l with
        | some rs => some (fitR0 p.2.row o.row :: rs)
        | none => none
      else none
    | none => none
def matsR : List (Nat × Ob) → List Row → Mt → Mt
  | p :: l, r :: rs, s => matsR l rs (Row.mat p.2.row r s)
  | _, _, s => s
def samesR (s : Sub) : List (Nat × Ob) → List Row → Bool
  | [], [] => true
  | p :: l, r :: rs => (p.2.row.sub s).same r && samesR s l rs
  | _, _ => false
/-- the slots behind it. -/
def clrF (fr : Tr V) : List Nat → Tr V
  | [] => fr
  | t :: l => (clrF fr l).put t none
def putF (fr : Tr V) (ds : List Nat) : List (Nat × V) → Tr V
  | [] => fr
  | p :: l => if ds.contains p.1 then (putF fr ds l).put p.1 (some p.2) else putF fr ds l
def clrO (σ : Tr Ob) : List (Nat × Ob) → Tr Ob
  | [] => σ
  | p :: l => (clrO σ l).put p.1 none
def putO (σ : Tr Ob) : List (Nat × Ob) → Tr Ob
  | [] => σ
  | p :: l => (putO σ l).put p.1 (some p.2)
theorem clrF_get (fr : Tr V) (t : Nat) : ∀ l : List Nat, (clrF fr l).get t = if l.contains t then none else fr.get t
  | [] => by simp [clrF]
  | u :: l => by
    rw [clrF, Tr.get_put, clrF_get fr t l, List.contains_cons]
    by_cases e : t = u
    · subst e; simp
    · have : (t == u) = false := by simpa using e
      simp [e]
theorem clrO_get (σ : Tr Ob) (id : Nat) : ∀ l : List (Nat × Ob), (clrO σ l).get id = if (obOf l).get id = none then σ.get id else none
  | [] => by simp [clrO, obOf, Tr.get]
  | p :: l => by
    rw [clrO, obOf, Tr.get_put, Tr.get_put, clrO_get σ id l]
    by_cases e : id = p.1
    · simp [e]
    · simp [e]
theorem putO_get (σ : Tr Ob) (id : Nat) : ∀ l : List (Nat × Ob), (putO σ l).get id = match (obOf l).get id with | some o => some o | none => σ.get id
  | [] => by simp [putO, obOf, Tr.get]
  | p :: l => by
    rw [putO, obOf, Tr.get_put, Tr.get_put, putO_get σ id l]
    by_cases e : id = p.1
    · simp [e]
    · simp [e]
theorem putF_get (fr : Tr V) (ds : List Nat) (t : Nat) : ∀ l : List (Nat × V), (putF fr ds l).get t = if ds.contains t then (match (frOf l).get t with | some v => some v | none => fr.get t) else fr.get t
  | [] => by simp [putF, frOf, Tr.get]
  | p :: l => by
    unfold putF
    rw [frOf]
    split
    · rename_i hc
      rw [Tr.get_put, Tr.get_put, putF_get fr ds t l]
      by_cases e : t = p.1
      · rw [if_pos e, e, if_pos hc, if_pos rfl]
      · rw [if_neg e, if_neg e]
    · rename_i hc
      rw [putF_get fr ds t l, Tr.get_put]
      by_cases e : t = p.1
      · rw [e, if_neg hc, if_neg hc]
      · rw [if_neg e]
def LRes.sub (c : LCon) (q : Sub) (s : St) (r : LRes) (kn : Kn) : Out × St :=
  (r.o, ⟨putF (clrF s.tr c.ds) c.ds (r.fr.map fun p => (p.1, p.2.sub q)), r.n, putO (clrO s.ob c.ob) (r.ob.map fun p => (p.1, p.2.sub q)), addOk kn (r.ok.map (·.sub q)) s.ok, kn⟩)
def askL (c : LCon) (q : Sub) (s : St) : T LRes → Kn → T (Out × St)
  | .leaf r, kn => if r.ob.all fun p => Nat.ble c.n p.1 || c.ob.any fun p' => Nat.beq p.1 p'.1 then .leaf (r.sub c q s kn) else .dead
  | .br b l r, kn => ask (b.sub q) kn fun t kn => bif t then askL c q s l kn else askL c q s r kn
  | .dead, _ => .dead
theorem askL_ok {ρ : Env} {c : LCon} {q : Sub} (hs : q.nix) {s : St} : ∀ {t : T LRes} {kn : Kn} {z : Out × St}, knOk ρ kn → (askL c q s t kn).pick ρ = some z → ∃ r kn', knOk ρ kn' ∧ t.pick (ρ.sub q) = some r ∧ z = r.sub c q s kn' ∧ (r.ob.all fun p => Nat.ble c.n p.1 || c.ob.any fun p' => Nat.beq p.1 p'.1) = true
  | .leaf r, kn, z, hk, h => by
    unfold askL at h
    split at h
    · rename_i hc
      simp only [T.pick, Option.some.injEq] at h
      exact ⟨r, kn, hk, rfl, h.symm, hc⟩
    · cases h
  | .br b l r, kn, z, hk, h => by
    unfold askL at h
    obtain ⟨kn1, h1, h2⟩ := ask_ok (b.sub q) (k := fun t kn => bif t then askL c q s l kn else askL c q s r kn) hk
    rw [h2, B.sub_den hs] at h
    cases hc : b.den (ρ.sub q) with
    | true =>
      rw [hc] at h
      simp only [T.pick, hc, cond_true]
      exact askL_ok hs h1 h
    | false =>
      rw [hc] at h
      simp only [T.pick, hc, cond_false]
      exact askL_ok hs h1 h
  | .dead, _, _, _, h => by cases h
def LCon.use (c : LCon) (s : St) : Option (T (Out × St)) :=
  if Nat.beq s.n c.n then match rowsOf s.σ c.ob with
    | none => none
    | some rs =>
      let vs := fitsA (c.fr.map (·.2)) (c.fr.map fun p => s.fr p.1)
      let q := (matsR c.ob rs (V.mats (c.fr.map (·.2)) vs mt0)).done
      if q.noix && V.sames (V.subs (c.fr.map (·.2)) q) vs && samesR q c.ob rs then some (askL c q s c.t s.kn) else none
  else none

theorem frOf_get : ∀ (l : List (Nat × V)) (t : Nat) (v : V), (frOf l).get t = some v → (t, v) ∈ l
  | [], t, v, h => by cases h
  | p :: l, t, v, h => by
    unfold frOf at h
    rw [Tr.get_put] at h
    split at h
    · rename_i e; subst e; cases h; simp
    · exact List.mem_cons_of_mem _ (frOf_get l t v h)
theorem obOf_get : ∀ (l : List (Nat × Ob)) (t : Nat) (v : Ob), (obOf l).get t = some v → (t, v) ∈ l
  | [], t, v, h => by cases h
  | p :: l, t, v, h => by
    unfold obOf at h
    rw [Tr.get_put] at h
    split at h
    · rename_i e; subst e; cases h; simp
    · exact List.mem_cons_of_mem _ (obOf_get l t v h)
theorem frOf_sub (s : Sub) : ∀ (l : List (Nat × V)), Fm.sub (fmOf (frOf l)) s = fmOf (frOf (l.map fun p => (p.1, p.2.sub s)))
  | [] => by funext t; simp [Fm.sub, fmOf, frOf, Tr.get, V.sub]
  | p :: l => by
    have ih := frOf_sub s l
    funext t
    have iht := congrFun ih t
    simp only [Fm.sub, fmOf, frOf, List.map_cons, Tr.get_put] at iht ⊢
    by_cases e : t = p.1
    · simp [e]
    · simp only [if_neg e]; exact iht
theorem obOf_sub (s : Sub) : ∀ (l : List (Nat × Ob)), Sto.sub (obOf l).get s = (obOf (l.map fun p => (p.1, p.2.sub s))).get
  | [] => rfl
  | p :: l => by
    have ih := obOf_sub s l
    funext t
    have iht := congrFun ih t
    simp only [Sto.sub, obOf, List.map_cons, Tr.get_put] at iht ⊢
    by_cases e : t = p.1
    · simp [e]
    · simp only [if_neg e]; exact iht
theorem imps_fr {ρ : Env} {fr : Fm} {s : Sub} : ∀ {l : List (Nat × V)}, V.subs (l.map (·.2)) s = fitsA (l.map (·.2)) (l.map fun p => fr p.1) → ∀ p ∈ l, V.imp ρ (fr p.1) (p.2.sub s)
  | [], _, p, hp => by cases hp
  | q :: l, h, p, hp => by
    simp only [List.map_cons, V.subs, fitsA, List.cons.injEq] at h
    rcases List.mem_cons.1 hp with rfl | hp
    · rw [h.1]; exact fun β x e hr => fitA_ok hr
    · exact imps_fr h.2 p hp
theorem imps_ob {ρ : Env} {σ : Sto} {s : Sub} : ∀ {l : List (Nat × Ob)} {rs : List Row}, rowsOf σ l = some rs → samesR s l rs = true → ∀ p ∈ l, ∃ o, σ p.1 = some o ∧ o.rw = p.2.rw ∧ o.e = p.2.e ∧ Row.imp ρ o.row (p.2.row.sub s)
  | [], _, _, _, p, hp => by cases hp
  | q :: l, rs, h, hs, p, hp => by
    unfold rowsOf at h
    split at h
    · rename_i o ho
      split at h
      · rename_i hc
        simp only [Bool.and_eq_true, beq_iff_eq] at hc
        split at h
        · rename_i rs' hrs
          cases h
          simp only [samesR, Bool.and_eq_true] at hs
          rcases List.mem_cons.1 hp with rfl | hp
          · exact ⟨o, ho, hc.1, Nat.eq_of_beq_eq_true hc.2, by rw [Row.same_ok hs.1]; exact fitR0_ok⟩
          · exact imps_ob hrs hs.2 p hp
        · cases h
      · cases h
    · cases h
theorem obOf_mem_none {l : List (Nat × Ob)} {id : Nat} (h : (obOf l).get id = none) : ∀ p ∈ l, p.1 ≠ id := by
  induction l with
  | nil => intro p hp; cases hp
  | cons q l ih =>
    intro p hp
    rw [obOf, Tr.get_put] at h
    by_cases e : id = q.1
    · rw [if_pos e] at h; cases h
    · rw [if_neg e] at h
      rcases List.mem_cons.1 hp with rfl | hp
      · exact Ne.symm e
      · exact ih h p hp
theorem LCon.use_ok {P : Program} {ρ : Env} {c : LCon} (hc : LConOk P c) {nt : Nat} {a : Code} (ha : theLoop P c.g c.id = some (nt, a)) {s : St} {t : T (Out × St)} {e : Nat} {o : Out} {s' : St} (h : c.use s = some t) (he : e ≤ s.n) (hk : knOk ρ s.kn) (hp : t.pick ρ = some (o, s')) :
    knOk ρ s'.kn ∧ e ≤ s'.n ∧ (okOk ρ s'.ok → (∃ k, TR P ρ e nt a k s.fr s.n s.σ o s'.fr s'.n s'.σ) ∧ okOk ρ s.ok) := by
  obtain ⟨nt', a', ha', hds, hc⟩ := hc
  rw [ha] at ha'; cases ha'
  unfold LCon.use at h
  split at h
  · rename_i hn
    have hn := Nat.eq_of_beq_eq_true hn
    split at h
    · cases h
    · rename_i rs hrs
      simp only at h
      generalize hq : (matsR c.ob rs _).done = q at h
      split at h
      · rename_i hcnd
        simp only [Bool.and_eq_true] at hcnd
        have hqn := Sub.noix_ok hcnd.1.1
        cases h
        obtain ⟨r, kn', h1, h2, h3, h4⟩ := askL_ok hqn hk hp
        cases h3
        refine ⟨h1, ?_, fun hok => ?_⟩
        · have := (hc (ρ.sub q) r h2).1
          show e ≤ r.n
          omega
        · obtain ⟨k1, k2⟩ := addOk_ok h1 hok
          have hokr : okOk (ρ.sub q) r.ok := fun b hb => by rw [← B.sub_den hqn]; exact k1 _ (List.mem_map.2 ⟨b, hb, rfl⟩)
          obtain ⟨k, hTR⟩ := (hc (ρ.sub q) r h2).2 hokr
          refine ⟨⟨k, ?_⟩, k2⟩
          have hTR := hTR.sub hqn
          rw [frOf_sub, obOf_sub, frOf_sub, obOf_sub] at hTR
          rw [hn]
          refine hTR.frame (by omega) (fun t => ?_) (fun id o' ho' => ?_) (fun t => ?_) (fun id o' ho' => ?_)
          · unfold fmOf
            cases hg : (frOf (c.fr.map fun p => (p.1, p.2.sub q))).get t with
            | none => exact V.imp.und _ _
            | some v =>
              have := frOf_get _ _ _ hg
              obtain ⟨p, hp1, hp2⟩ := List.mem_map.1 this
              cases hp2
              exact imps_fr (V.sames_ok hcnd.1.2) p hp1
          · have := obOf_get _ _ _ ho'
            obtain ⟨p, hp1, hp2⟩ := List.mem_map.1 this
            cases hp2
            exact imps_ob hrs hcnd.2 p hp1
          · show V.imp ρ _ (fmOf (putF (clrF s.tr c.ds) c.ds (r.fr.map fun p => (p.1, p.2.sub q))) t) ∨ (_ ∧ fmOf (putF (clrF s.tr c.ds) c.ds (r.fr.map fun p => (p.1, p.2.sub q))) t = fmOf s.tr t)
            unfold fmOf
            rw [putF_get, clrF_get]
            cases hd : c.ds.contains t with
            | true =>
              left
              rw [if_pos rfl, if_pos rfl]
              cases (frOf (r.fr.map fun p => (p.1, p.2.sub q))).get t with
              | none => exact V.imp.und _ _
              | some v => exact V.imp.refl _ _
            | false =>
              right
              rw [if_neg (by simp), if_neg (by simp)]
              refine ⟨?_, rfl⟩
              cases hx : (dsts a).contains t with
              | false => rfl
              | true => rw [hds t hx] at hd; cases hd
          · have ho' : (putO (clrO s.ob c.ob) (r.ob.map fun p => (p.1, p.2.sub q))).get id = some o' := ho'
            rw [putO_get] at ho'
            split at ho'
            · rename_i o1 ho1
              cases ho'
              left
              refine ⟨ho1, ?_⟩
              obtain ⟨p, hp1, hp2⟩ := List.mem_map.1 (obOf_get _ _ _ ho1)
              cases hp2
              have := (List.all_eq_true.1 h4) p hp1
              rcases (Bool.or_eq_true _ _).mp this with hge | hany
              · exact .inl (Nat.le_of_ble_eq_true hge)
              · right
                obtain ⟨p', hp', hb⟩ := List.any_eq_true.1 hany
                have hb := Nat.eq_of_beq_eq_true hb
                cases hg : (obOf (c.ob.map fun p => (p.1, p.2.sub q))).get p.1 with
                | some _ => rfl
                | none => exact (obOf_mem_none hg (p'.1, p'.2.sub q) (List.mem_map.2 ⟨p', hp', rfl⟩) hb.symm).elim
            · rw [clrO_get] at ho'
              split at ho'
              · rename_i hnone
                right
                refine ⟨?_, ho'⟩
                cases hg : (obOf (c.ob.map fun p => (p.1, p.2.sub q))).get id with
                | none => rfl
                | some o1 =>
                  obtain ⟨p, hp1, hp2⟩ := List.mem_map.1 (obOf_get _ _ _ hg)
                  cases hp2
                  exact (obOf_mem_none hnone p hp1 rfl).elim
              · cases ho'
      · cases h
  · cases h
/-! ### rows that are longer than what is looked at -/
def Ob.trim (o : Ob) (len : E) : Option (Ob × List B) := match o.row with
  | .ints k l => if len.same (mkLen l) then none else some (⟨.ints k (mkCut l (.lit 0) len), o.rw, o.e⟩, [mkNot (mkLt len (.lit 0)), mkNot (mkLt (mkLen l) len)])
  | _ => none
theorem Sim.trim {ρ : Env} {n : Nat} {β : Bt} {σ : Sto} {w : World} {id : Nat} {o o' : Ob} {len : E} {bs : List B} (hS : Sim ρ n β σ w) (ho : σ id = some o) (ht : o.trim len = some (o', bs)) (hb : okOk ρ bs) : Sim ρ n β (σ.put id o') w ∧ ∀ e, Step e β σ w β (σ.put id o') w ∧ ∀ β2 σ2 w2, Step e β (σ.put id o') w β2 σ2 w2 → Step e β σ w β2 σ2 w2 := by
  unfold Ob.trim at ht
  split at ht
  · rename_i k l hrow
    split at ht
    · cases ht
    · cases ht
      have b1 := hb _ (List.mem_cons_self ..)
      have b2 := hb _ (List.mem_cons_of_mem _ (List.mem_cons_self ..))
      have h1 : 0 ≤ len.den ρ := nlt_den b1
      have h2 : len.den ρ ≤ ((l.den ρ).length : Nat) := by have := nlt_den b2; rwa [mkLen_den] at this
      have hden : ∀ ρ', ρ' = ρ → (mkCut l (.lit 0) len).den ρ' = (l.den ρ).take (len.den ρ).toNat := by
        rintro _ rfl; rw [mkCut_den]; simp [E.den]
      have hwr : ∀ b, Wr β (σ.put id ⟨.ints k (mkCut l (.lit 0) len), o.rw, o.e⟩) b ↔ Wr β σ b := by
        intro b
        constructor
        · rintro ⟨j, q, p, e1, e2, e3, e4⟩
          rcases put_cases e1 with ⟨rfl, rfl⟩ | ⟨hne, e1⟩
          · exact ⟨j, o, p, ho, e2, e3, e4⟩
          · exact ⟨j, q, p, e1, e2, e3, e4⟩
        · rintro ⟨j, q, p, e1, e2, e3, e4⟩
          by_cases hj : j = id
          · subst hj
            rw [ho] at e1; cases e1
            exact ⟨j, _, p, if_pos rfl, e2, e3, e4⟩
          · exact ⟨j, q, p, (if_neg hj).trans e1, e2, e3, e4⟩
      refine ⟨⟨⟨hS.env, fun j q e => ?_, fun j q j' q' p p' e hr e' hne hp hp' => ?_, fun b cs e => ⟨(hS.fzs b cs e).1, fun hc => (hS.fzs b cs e).2.1 ((hwr b).1 hc), (hS.fzs b cs e).2.2⟩, fun b c e => ⟨(hS.kvs b c e).1, fun hc => (hS.kvs b c e).2 ((hwr b).1 hc)⟩⟩, hS.fresh⟩,
        fun e => ⟨⟨Bt.le.refl _ _, rfl, rfl, rfl, Nat.le_refl _, fun _ _ _ _ => rfl, fun b hb => .inl ((hwr b).1 hb), fun _ _ h => .inl h, fun _ _ h => .inl h⟩, fun β2 σ2 w2 st => ⟨st.le, st.os, st.tape, st.output, st.size, fun b k1 k2 k3 => st.fr b k1 (fun hc => k2 ((hwr b).1 hc)) k3, fun b hb => (st.own b hb).imp_left (hwr b).1, fun b cs hb => (st.fzn b cs hb).imp_right fun x => x.imp_left (hwr b).1, fun b c hb => (st.kvn b c hb).imp_right fun x => x.imp_left (hwr b).1⟩⟩⟩
      · rcases put_cases e with ⟨rfl, rfl⟩ | ⟨hne, e⟩
        · obtain ⟨q, hq, hok⟩ := hS.ob j o ho
          refine ⟨q, hq, ?_⟩
          cases q with
          | none =>
            have hok : RH β o.row [] := hok
            rw [hrow] at hok
            simp only [RH, Fr] at hok
            show RH β (.ints k _) []
            simp only [RH, Fr]
            rw [hden _ hS.env]
            rw [hS.env] at hok
            have : l.den ρ = [] := by simpa using hok.symm
            rw [this]; simp
          | some p =>
            obtain ⟨m1, cur, xs, rest, fz, m2, m3, m4, m5, m6, m7⟩ := hok
            rw [hrow] at m5
            simp only [RH, Fr] at m5
            refine ⟨m1, cur, xs.take (len.den ρ).toNat, xs.drop (len.den ρ).toNat ++ rest, fz, m2, m3, by rw [m4, ← List.append_assoc, List.take_append_drop], ?_, m6, m7⟩
            simp only [RH, Fr]
            rw [hden _ hS.env, m5, hS.env, List.map_take]
        · exact hS.ob j q e
      · rcases put_cases e with ⟨h1, h2⟩ | ⟨hn1, e1⟩ <;> rcases put_cases e' with ⟨h3, h4⟩ | ⟨hn2, e2⟩
        · exact (hne (h1.trans h3.symm)).elim
        · subst h1 h2
          exact hS.sep _ o j' q' p p' ho hr e2 hne hp hp'
        · subst h3 h4
          exact hS.sep j q _ o p p' e1 hr ho hne hp hp'
        · exact hS.sep j q j' q' p p' e1 hr e2 hne hp hp'
  · cases ht
def trim1 (v : V) (s : St) : St := match v with
    | .sl id 0 (.lit 0) len z true => match s.σ id with
      | some o => match o.trim len with
        | some (o', bs) => ⟨s.tr, s.n, s.ob.put id (some o'), addOk s.kn bs s.ok, s.kn⟩
        | none => s
      | none => s
    | _ => s
def V.isOwn : V → Bool
  | .sl _ _ _ _ _ true => true
  | _ => false
def trimS : List (Nat × V) → St → St
  | [], s => s
  | p :: l, s => trimS l (bif p.2.isOwn then trim1 (s.fr p.1) s else s)
theorem trim1_ok {P : Program} {ρ : Env} {nt : Nat} {a : Code} {v : V} {s : St} (hk : knOk ρ s.kn) : (trim1 v s).n = s.n ∧ (trim1 v s).kn = s.kn ∧ (okOk ρ (trim1 v s).ok → okOk ρ s.ok ∧ ∀ {e k o fr' n' σ'}, TR P ρ e nt a k (trim1 v s).fr (trim1 v s).n (trim1 v s).σ o fr' n' σ' → TR P ρ e nt a k s.fr s.n s.σ o fr' n' σ') := by
  unfold trim1
  split
  · rename_i id len z
    split
    · rename_i o ho
      split
      · rename_i o' bs ht
        refine ⟨rfl, rfl, fun hok => ?_⟩
        obtain ⟨k1, k2⟩ := addOk_ok hk hok
        refine ⟨k2, fun {e k oo fr' n' σ'} hT2 => ?_⟩
        have hσ : (St.σ ⟨s.tr, s.n, s.ob.put id (some o'), addOk s.kn bs s.ok, s.kn⟩) = s.σ.put id o' := by
          funext j
          simp only [St.σ, Tr.get_put, Sto.put]
        rw [hσ] at hT2
        intro β x w Q hS hF hQ
        obtain ⟨m1, m2⟩ := hS.trim ho ht k1
        exact hT2 β x w Q m1 hF fun β' a' w' hS' hF' st kp => hQ β' a' w' hS' hF' ((m2 e).2 β' σ' w' st) kp
      · exact ⟨rfl, rfl, fun h => ⟨h, fun h => h⟩⟩
    · exact ⟨rfl, rfl, fun h => ⟨h, fun h => h⟩⟩
  · exact ⟨rfl, rfl, fun h => ⟨h, fun h => h⟩⟩
theorem trimS_ok {P : Program} {ρ : Env} {nt : Nat} {a : Code} : ∀ {l : List (Nat × V)} {s : St}, knOk ρ s.kn → (trimS l s).n = s.n ∧ (trimS l s).kn = s.kn ∧ (okOk ρ (trimS l s).ok → okOk ρ s.ok ∧ ∀ {e k o fr' n' σ'}, TR P ρ e nt a k (trimS l s).fr (trimS l s).n (trimS l s).σ o fr' n' σ' → TR P ρ e nt a k s.fr s.n s.σ o fr' n' σ')
  | [], s, _ => ⟨rfl, rfl, fun h => ⟨h, fun h => h⟩⟩
  | p :: l, s, hk => by
    rw [trimS]
    cases p.2.isOwn with
    | false => exact trimS_ok (l := l) hk
    | true =>
      obtain ⟨i1, i2, i3⟩ := trim1_ok (P := P) (nt := nt) (a := a) (v := s.fr p.1) hk
      obtain ⟨j1, j2, j3⟩ := trimS_ok (P := P) (nt := nt) (a := a) (l := l) (s := trim1 (s.fr p.1) s) (by rw [i2]; exact hk)
      refine ⟨j1.trans i1, j2.trans i2, fun hok => ?_⟩
      obtain ⟨k1, k2⟩ := j3 hok
      obtain ⟨l1, l2⟩ := i3 k1
      exact ⟨l1, fun hT => l2 (k2 hT)⟩
def LCon.use2 (c : LCon) (s : St) : Option (T (Out × St)) := c.use (trimS c.fr s)
/-- the loops that are told. -/
def lpC : List LCon → FuncId → LT
  | [] => noLp
  | c :: cs => fun g id s => if Nat.beq c.g g && Nat.beq c.id id then (match c.use2 s with
      | some t => some t
      | none => lpC cs g id s)
    else lpC cs g id s
theorem theLoop_eq {P : Program} {g id nt : Nat} {a : Code} (h : theLoop P g id = some (nt, a)) {fn : Func} (hf : P.funcs[g]? = some fn) {b : Code} (hb : b ∈ bodyLoops fn) (hid : regId b = some id) : nt = fn.ntmps ∧ a = b := by
  unfold theLoop at h
  rw [hf] at h
  simp only at h
  split at h
  · rename_i a' ha
    cases h
    have : b ∈ (bodyLoops fn).filter (fun a => regId a == some id) := List.mem_filter.2 ⟨hb, by simp [hid]⟩
    rw [ha] at this
    exact ⟨rfl, (List.mem_singleton.1 this).symm⟩
  · cases h
theorem lpC_ok {P : Program} {ρ : Env} : ∀ {cs : List LCon}, (∀ c ∈ cs, LConOk P c) → LPOk P ρ (lpC cs)
  | [], _ => noLp_ok P ρ
  | c :: cs, h => by
    intro g fn hf a ha id hid s t e o s' ht he hk hp
    have ih := lpC_ok (P := P) (ρ := ρ) (cs := cs) fun c hc => h c (by simp [hc])
    unfold lpC at ht
    split at ht
    · rename_i hg
      simp only [Bool.and_eq_true] at hg
      have e1 := Nat.eq_of_beq_eq_true hg.1
      have e2 := Nat.eq_of_beq_eq_true hg.2
      subst e1 e2
      split at ht
      · rename_i t' ht'
        cases ht
        have hc := h c (by simp)
        obtain ⟨nt, a', h1, _⟩ := id hc
        obtain ⟨rfl, rfl⟩ := theLoop_eq h1 hf ha hid
        obtain ⟨t1, t2, t3⟩ := trimS_ok (P := P) (ρ := ρ) (nt := _) (a := a') (l := c.fr) (s := s) hk
        obtain ⟨u1, u2, u3⟩ := LCon.use_ok (s := trimS c.fr s) hc h1 ht' (by rw [t1]; exact he) (by rw [t2]; exact hk) hp
        refine ⟨u1, u2, fun hok => ?_⟩
        obtain ⟨⟨k, v1⟩, v2⟩ := u3 hok
        obtain ⟨w1, w2⟩ := t3 v2
        exact ⟨⟨k, w2 v1⟩, w1⟩
      · exact ih c.g fn hf a ha c.id hid s t e o s' ht he hk hp
    · exact ih g fn hf a ha id hid s t e o s' ht he hk hp

/-! ### one round -/
theorem loopsIn_trans : ∀ (c : Code) {a b : Code}, a ∈ loopsIn c → b ∈ loopsIn a → b ∈ loopsIn c := by
  intro c
  induction c with
  | loop x ih =>
    intro a b ha hb
    simp only [loopsIn, List.mem_cons] at ha ⊢
    rcases ha with rfl | ha
    · exact .inr hb
    · exact .inr (ih ha hb)
  | seq x y ihx ihy =>
    intro a b ha hb
    simp only [loopsIn, List.mem_append] at ha ⊢
    rcases ha with ha | ha
    · exact .inl (ihx ha hb)
    · exact .inr (ihy ha hb)
  | block _ x ih => intro a b ha hb; exact ih (by simpa [loopsIn] using ha) hb
  | cond _ x y ihx ihy =>
    intro a b ha hb
    simp only [loopsIn, List.mem_append] at ha ⊢
    rcases ha with ha | ha
    · exact .inl (ihx ha hb)
    · exact .inr (ihy ha hb)
  | _ => intro a b ha hb; simp [loopsIn] at ha
theorem loopsIn_sub {fn : Func} {a b : Code} (ha : a ∈ bodyLoops fn) (hb : b ∈ loopsIn a) : b ∈ bodyLoops fn := by
  unfold bodyLoops at ha ⊢
  split at ha
  · exact loopsIn_trans _ ha hb
  · cases ha
def liveAt (P : Program) (g : FuncId) : List Nat := match P.funcs[g]? with
  | some fn => match fn.body with
    | some c => liveOf fn c
    | none => []
  | none => []
/-- what one round gives, from a state told by lists. -/
def roundT (P : Program) (cf : Cf) (fuel depth : Nat) (g id : Nat) (fr : List (Nat × V)) (n : Nat) (ob : List (Nat × Ob)) (kn : Kn) : T (Out × St) := match theLoop P g id with
  | some (nt, a) => dcode P (inl P cf fuel depth) (cf.lp g) nt (cf.mg g) (bif onM (cf.mg g) then liveAt P g else []) fuel a (stOf fr n ob [] kn)
  | none => .dead
theorem round_ok {P : Program} (hm : P.follows .mixedOrders = true) {ρ : Env} {cf : Cf} (hcf : CfOk P cf) {fuel depth g id n nt : Nat} {a : Code} (ha : theLoop P g id = some (nt, a)) {fr : List (Nat × V)} {ob : List (Nat × Ob)} {kn : Kn} (hk : knOk ρ kn) {o : Out} {s' : St}
    (h : (roundT P cf fuel depth g id fr n ob kn).pick ρ = some (o, s')) : n ≤ s'.n ∧ (okOk ρ s'.ok → ∀ e, e ≤ n → TC P ρ e nt a (fmOf (frOf fr)) n (obOf ob).get o s'.fr s'.n s'.σ) := by
  unfold roundT at h
  rw [ha] at h
  simp only at h
  have hfn : ∃ fn, P.funcs[g]? = some fn ∧ fn.ntmps = nt ∧ a ∈ bodyLoops fn := by
    unfold theLoop at ha
    split at ha
    · rename_i fn hf
      split at ha
      · rename_i a' hfl
        cases ha
        have : a ∈ (bodyLoops fn).filter (fun a => regId a == some id) := by rw [hfl]; simp
        exact ⟨fn, hf, rfl, (List.mem_filter.1 this).1⟩
      · cases ha
    · cases ha
  obtain ⟨fn, hf, hnt, hmem⟩ := hfn
  subst hnt
  have key := fun e (he : e ≤ n) => dcode_ok hm (inl_ok hm hcf fuel depth) (lp := cf.lp g) (S := bodyLoops fn) (fun ρ => hcf.lp ρ g fn hf) fuel ρ e a (stOf fr n ob [] kn) o s' (fun b hb => loopsIn_sub hmem hb) he hk h
  exact ⟨(key n (Nat.le_refl _)).2.1, fun hok e he => ((key e he).2.2 hok).1⟩
end Go.Proofs.YtmckhoaekbeijaaGreat.E
/- Names given anew; loops by their rounds. Plain Lean over the kit's model; no program. -/
namespace Go.Proofs.YtmckhoaekbeijaaGreat.E
open Go Go.RowKit
set_option linter.unusedVariables false

/-! ### names given anew -/
def V.ren0 (π : Nat → Nat) : V → V
  | .ptr id i z c => .ptr (π id) i z c
  | .sl id co off len z top => .sl (π id) co off len z top
  | v => v
def V.ren1 (π : Nat → Nat) : V → V
  | .fn f a b => .fn f (a.map (V.ren0 π)) (b.map (V.ren0 π))
  | v => v.ren0 π
def V.ren2 (π : Nat → Nat) : V → V
  | .agg cs => .agg (cs.map (V.ren1 π))
  | v => v.ren1 π
def V.ren (π : Nat → Nat) : V → V
  | .tup vs => .tup (vs.map (V.ren2 π))
  | v => v.ren2 π
def Row.ren (π : Nat → Nat) : Row → Row
  | .any l => .any (l.map (V.ren1 π))
  | r => r
theorem V.ren0_sub (π : Nat → Nat) (s : Sub) (v : V) : (v.ren0 π).sub s = (v.sub s).ren0 π := by cases v <;> simp only [V.ren0, V.sub]
theorem V.ren1_sub (π : Nat → Nat) (s : Sub) (v : V) : (v.ren1 π).sub s = (v.sub s).ren1 π := by
  cases v with
  | fn f a b => simp only [V.ren1, V.sub, V.subs_map, List.map_map, V.fn.injEq, true_and]; exact ⟨List.map_congr_left fun x _ => V.ren0_sub π s x, List.map_congr_left fun x _ => V.ren0_sub π s x⟩
  | _ => simp only [V.ren1, V.ren0, V.sub]
theorem V.ren2_sub (π : Nat → Nat) (s : Sub) (v : V) : (v.ren2 π).sub s = (v.sub s).ren2 π := by
  cases v with
  | agg cs => simp only [V.ren2, V.sub, V.subs_map, List.map_map, V.agg.injEq]; exact List.map_congr_left fun x _ => V.ren1_sub π s x
  | fn f a b => exact V.ren1_sub π s (.fn f a b)
  | _ => simp only [V.ren2, V.ren1, V.ren0, V.sub]
theorem V.ren_sub (π : Nat → Nat) (s : Sub) (v : V) : (v.ren π).sub s = (v.sub s).ren π := by
  cases v with
  | tup cs => simp only [V.ren, V.sub, V.subs_map, List.map_map, V.tup.injEq]; exact List.map_congr_left fun x _ => V.ren2_sub π s x
  | agg cs => exact V.ren2_sub π s (.agg cs)
  | fn f a b => exact V.ren1_sub π s (.fn f a b)
  | _ => simp only [V.ren, V.ren2, V.ren1, V.ren0, V.sub]
theorem Row.ren_sub (π : Nat → Nat) (s : Sub) (r : Row) : (r.ren π).sub s = (r.sub s).ren π := by
  cases r with
  | any l => simp only [Row.ren, Row.sub, V.subs_map, List.map_map, Row.any.injEq]; exact List.map_congr_left fun x _ => V.ren1_sub π s x
  | _ => simp only [Row.ren, Row.sub]
theorem V.in0_sub (p : Nat → Bool) (s : Sub) (v : V) : (v.sub s).in0 p = v.in0 p := by cases v <;> simp only [V.in0, V.sub]
theorem V.all_sub {q : V → Bool} (s : Sub) (h : ∀ v : V, q (v.sub s) = q v) (l : List V) : (V.subs l s).all q = l.all q := by
  rw [V.subs_map, List.all_map]; congr 1; funext v; exact h v
theorem V.in1_sub (p : Nat → Bool) (s : Sub) (v : V) : (v.sub s).in1 p = v.in1 p := by
  cases v with
  | fn f a b => simp only [V.in1, V.sub]; rw [V.all_sub s (V.in0_sub p s), V.all_sub s (V.in0_sub p s)]
  | _ => simp only [V.in1, V.in0, V.sub]
theorem V.in2_sub (p : Nat → Bool) (s : Sub) (v : V) : (v.sub s).in2 p = v.in2 p := by
  cases v with
  | agg cs => simp only [V.in2, V.sub]; rw [V.all_sub s (V.in1_sub p s)]
  | fn f a b => exact V.in1_sub p s (.fn f a b)
  | _ => simp only [V.in2, V.in1, V.in0, V.sub]
theorem V.inn_sub (p : Nat → Bool) (s : Sub) (v : V) : (v.sub s).inn p = v.inn p := by
  cases v with
  | tup cs => simp only [V.inn, V.sub]; rw [V.all_sub s (V.in2_sub p s)]
  | agg cs => exact V.in2_sub p s (.agg cs)
  | fn f a b => exact V.in1_sub p s (.fn f a b)
  | _ => simp only [V.inn, V.in2, V.in1, V.in0, V.sub]
theorem Row.inn_sub (p : Nat → Bool) (s : Sub) (r : Row) : (r.sub s).inn p = r.inn p := by
  cases r with
  | any l => simp only [Row.inn, Row.sub]; rw [V.all_sub s (V.in1_sub p s)]
  | _ => rfl
def lower (n : Nat) : Nat → Bool := fun id => Nat.blt id n
def Bt.ren (β : Bt) (n : Nat) (π : Nat → Nat) : Bt := ⟨β.g, fun id => if Nat.blt id n then β.nm (π id) else none⟩
section
variable {β : Bt} {n : Nat} {π : Nat → Nat}
theorem Bt.ren_nm {id : Nat} (h : lower n id = true) : (β.ren n π).nm id = β.nm (π id) := by
  unfold Bt.ren; simp only; rw [if_pos (show Nat.blt id n = true from h)]
theorem R0.ren {v : V} {x : Value} (h : R0 β (v.ren0 π) x) (hv : v.in0 (lower n) = true) : R0 (β.ren n π) v x := by
  cases v with
  | ptr id i z c => obtain ⟨q, hq, e⟩ := h; exact ⟨q, (Bt.ren_nm hv).trans hq, e⟩
  | sl id co off len z top => obtain ⟨q, hq, e⟩ := h; exact ⟨q, (Bt.ren_nm hv).trans hq, e⟩
  | _ => exact h
theorem F2.ren0 : ∀ {vs : List V} {xs : List Value}, F2 (R0 β) (vs.map (V.ren0 π)) xs → vs.all (V.in0 (lower n)) = true → F2 (R0 (β.ren n π)) vs xs
  | [], [], _, _ => trivial
  | _ :: _, _ :: _, h, hv => by
    simp only [List.all_cons, Bool.and_eq_true] at hv
    exact ⟨R0.ren h.1 hv.1, F2.ren0 h.2 hv.2⟩
  | [], _ :: _, h, _ => h.elim
  | _ :: _, [], h, _ => h.elim
theorem R1.ren {v : V} {x : Value} (h : R1 β (v.ren1 π) x) (hv : v.in1 (lower n) = true) : R1 (β.ren n π) v x := by
  cases v with
  | fn f a b =>
    obtain ⟨xs, ys, e, h1, h2⟩ := h
    simp only [V.in1, Bool.and_eq_true] at hv
    exact ⟨xs, ys, e, F2.ren0 h1 hv.1, F2.ren0 h2 hv.2⟩
  | ptr id i z c => exact R0.ren (v := .ptr id i z c) h hv
  | sl id co off len z top => exact R0.ren (v := .sl id co off len z top) h hv
  | _ => exact h
theorem F2.ren1 : ∀ {vs : List V} {xs : List Value}, F2 (R1 β) (vs.map (V.ren1 π)) xs → vs.all (V.in1 (lower n)) = true → F2 (R1 (β.ren n π)) vs xs
  | [], [], _, _ => trivial
  | _ :: _, _ :: _, h, hv => by
    simp only [List.all_cons, Bool.and_eq_true] at hv
    exact ⟨R1.ren h.1 hv.1, F2.ren1 h.2 hv.2⟩
  | [], _ :: _, h, _ => h.elim
  | _ :: _, [], h, _ => h.elim
theorem R2.ren {v : V} {x : Value} (h : R2 β (v.ren2 π) x) (hv : v.in2 (lower n) = true) : R2 (β.ren n π) v x := by
  cases v with
  | agg cs => obtain ⟨xs, e, h1⟩ := h; exact ⟨xs, e, F2.ren1 h1 hv⟩
  | fn f a b => exact R1.ren (v := .fn f a b) h hv
  | ptr id i z c => exact R0.ren (v := .ptr id i z c) h hv
  | sl id co off len z top => exact R0.ren (v := .sl id co off len z top) h hv
  | _ => exact h
theorem F2.ren2 : ∀ {vs : List V} {xs : List Value}, F2 (R2 β) (vs.map (V.ren2 π)) xs → vs.all (V.in2 (lower n)) = true → F2 (R2 (β.ren n π)) vs xs
  | [], [], _, _ => trivial
  | _ :: _, _ :: _, h, hv => by
    simp only [List.all_cons, Bool.and_eq_true] at hv
    exact ⟨R2.ren h.1 hv.1, F2.ren2 h.2 hv.2⟩
  | [], _ :: _, h, _ => h.elim
  | _ :: _, [], h, _ => h.elim
theorem R.ren {v : V} {x : Value} (h : R β (v.ren π) x) (hv : v.inn (lower n) = true) : R (β.ren n π) v x := by
  cases v with
  | tup vs => obtain ⟨xs, e, h1⟩ := h; exact ⟨xs, e, F2.ren2 h1 hv⟩
  | und => trivial
  | agg cs => exact R2.ren (v := .agg cs) h hv
  | fn f a b => exact R1.ren (v := .fn f a b) h hv
  | ptr id i z c => exact R0.ren (v := .ptr id i z c) h hv
  | sl id co off len z top => exact R0.ren (v := .sl id co off len z top) h hv
  | _ => exact h
theorem RH.ren {r : Row} {xs : List Value} (h : RH β (r.ren π) xs) (hv : r.inn (lower n) = true) : RH (β.ren n π) r xs := by
  cases r with
  | any l => exact F2.ren1 h hv
  | _ => exact h
end
/-- the state 'fr2, n2, σ2' in other names: 'fr, σ' say what it says. -/
structure Ren (ρ : Env) (e : Nat) (π : Nat → Nat) (fr : Fm) (σ : Sto) (fr2 : Fm) (n2 : Nat) (σ2 : Sto) : Prop where
  old : ∀ id, id < e → π id = id
  le : e ≤ n2
  fr : ∀ t, V.imp ρ (fr t) ((fr2 t).ren π) ∧ (fr2 t).inn (lower n2) = true
  ob : ∀ id o2, σ2 id = some o2 → id < n2 ∧ o2.row.inn (lower n2) = true ∧ ∃ o, σ (π id) = some o ∧ o.rw = o2.rw ∧ o.e = o2.e ∧ Row.imp ρ o.row (o2.row.ren π)
  inj : ∀ id id' o o', σ2 id = some o → σ2 id' = some o' → π id = π id' → id = id'
section
variable {P : Program} {ρ : Env} {e nt k n n' n2 : Nat} {c : Code} {fr fr' fr2 : Fm} {σ σ' σ2 : Sto} {o : Out} {π : Nat → Nat} {β : Bt} {w : World}
theorem Ren.wr (h : Ren ρ e π fr σ fr2 n2 σ2) {b : Nat} (hw : Wr (β.ren n2 π) σ2 b) : Wr β σ b := by
  obtain ⟨id, o2, p, h1, h2, h3, h4⟩ := hw
  obtain ⟨k1, _, o, k3, k4, _⟩ := h.ob id o2 h1
  exact ⟨π id, o, p, k3, k4.trans h2, by rw [← Bt.ren_nm (n := n2) (show lower n2 id = true by simp [lower, Nat.blt]; omega)]; exact h3, h4⟩
theorem Ren.sim (h : Ren ρ e π fr σ fr2 n2 σ2) (hS : Sim ρ n β σ w) : Sim ρ n2 (β.ren n2 π) σ2 w := by
  have hnm : ∀ id o2, σ2 id = some o2 → (β.ren n2 π).nm id = β.nm (π id) := fun id o2 e' => Bt.ren_nm (by have := (h.ob id o2 e').1; simp [lower, Nat.blt]; omega)
  refine ⟨⟨hS.env, fun id o2 e' => ?_, fun id o2 id' o2' p p' e1 hr e2 hne hp hp' => ?_, fun b cs hb => ?_, fun b c hb => ?_⟩, fun id hid => ?_⟩
  · obtain ⟨k1, k2, o, k3, k4, k5, k6⟩ := h.ob id o2 e'
    obtain ⟨q, l1, l2⟩ := hS.ob (π id) o k3
    refine ⟨q, (hnm id o2 e').trans l1, ?_⟩
    cases q with
    | none => exact RH.ren (k6 β [] hS.env l2) k2
    | some p =>
      obtain ⟨m1, cur, xs, rest, fz, m2, m3, m4, m5, m6, m7⟩ := l2
      exact ⟨m1, cur, xs, rest, fz, by rw [← k5]; exact m2, m3, m4, RH.ren (k6 β xs hS.env m5) k2, fun hr => m6 (k4.trans hr), fun hr => m7 (k4.trans hr)⟩
  · obtain ⟨_, _, o, k3, k4, _⟩ := h.ob id o2 e1
    obtain ⟨_, _, o', l3, _⟩ := h.ob id' o2' e2
    rw [hnm id o2 e1] at hp
    rw [hnm id' o2' e2] at hp'
    exact hS.sep (π id) o (π id') o' p p' k3 (k4.trans hr) l3 (fun hc => hne (h.inj id id' o2 o2' e1 e2 hc)) hp hp'
  · obtain ⟨k1, k2, k3⟩ := hS.fzs b cs hb
    exact ⟨k1, fun hc => k2 (h.wr hc), k3⟩
  · obtain ⟨k1, k2⟩ := hS.kvs b c hb
    exact ⟨k1, fun hc => k2 (h.wr hc)⟩
  · unfold Bt.ren; simp only; rw [if_neg (by simp [Nat.blt]; omega)]
theorem Ren.frm (h : Ren ρ e π fr σ fr2 n2 σ2) (hρ : β.g.env = ρ) {a : Act} (hF : FrOk β fr nt a) : FrOk (β.ren n2 π) fr2 nt a :=
  ⟨fun t => R.ren ((h.fr t).1 β _ hρ (hF.1 t)) (h.fr t).2, hF.2⟩
theorem Ren.nm (h : Ren ρ e π fr σ fr2 n2 σ2) {id : Nat} (hid : id < e) : (β.ren n2 π).nm id = β.nm id := by
  rw [Bt.ren_nm (by have := h.le; simp [lower, Nat.blt]; omega), h.old id hid]
/-- what begins there may begin here. -/
theorem TR.ren (h : Ren ρ e π fr σ fr2 n2 σ2) (hT : TR P ρ e nt c k fr2 n2 σ2 o fr' n' σ') : TR P ρ e nt c k fr n σ o fr' n' σ' := by
  intro β a w Q hS hF hQ
  refine hT (β.ren n2 π) a w Q (h.sim hS) (h.frm hS.env hF) fun β' a' w' hS' hF' st kp => hQ β' a' w' hS' hF' ⟨⟨st.le.g, fun id q hid hq => st.le.nm id q hid ((h.nm hid).trans hq)⟩, st.os, st.tape, st.output, st.size, fun b h1 h2 h3 => st.fr b h1 (fun hc => h2 (h.wr hc)) h3, fun b hb => (st.own b hb).imp_left h.wr, fun b cs hb => (st.fzn b cs hb).imp_right fun x => x.imp_left h.wr, fun b c hb => (st.kvn b c hb).imp_right fun x => x.imp_left h.wr⟩ kp
/-- what ends here may end there. -/
theorem TC.ren (hT : TC P ρ e nt c fr n σ o fr' n' σ') (h : Ren ρ e π fr' σ' fr2 n2 σ2) : TC P ρ e nt c fr n σ o fr2 n2 σ2 := by
  intro β a w Q hS hF hQ
  refine hT β a w Q hS hF fun β' a' w' hS' hF' st kp => hQ (β'.ren n2 π) a' w' (h.sim hS') (h.frm hS'.env hF') ⟨⟨st.le.g, fun id q hid hq => (h.nm hid).trans (st.le.nm id q hid hq)⟩, st.os, st.tape, st.output, st.size, st.fr, fun b hb => st.own b (h.wr hb), st.fzn, st.kvn⟩ kp
/-- a row of nothing has a name. -/
theorem TR.nilStart {T : Nat → Bool} {kd z : Nat} {r : Row} {ty : TypeId} (he : e ≤ n) (hr : ∀ β : Bt, RH β r []) (hfr : ∀ t, fr2 t = fr t ∨ (fr t = .sc (.slice none 0 0) ∧ fr2 t = .sl n 0 (.lit 0) (.lit 0) z true))
    (hT : TR P ρ e nt c k fr2 (n + 1) (σ.put n ⟨r, true, ty⟩) o fr' n' σ') : TR P ρ e nt c k fr n σ o fr' n' σ' := by
  intro β a w Q hS hF hQ
  obtain ⟨β', hg, hn, hS', hst⟩ := new_in (w' := w) hS (Sto.le.refl σ) ty r none (fun β' _ => hr β') (fun p hp => by cases hp) (Nat.le_refl _) (fun b _ _ => rfl) rfl rfl rfl
  have hall := hS.all hst
  refine hT β' a w Q hS' ⟨fun t => ?_, hF.2⟩ fun β2 a2 w2 hS2 hF2 st kp => hQ β2 a2 w2 hS2 hF2 ((hst.weaken he).trans st) kp
  rcases hfr t with h | ⟨h1, h2⟩
  · rw [h]; exact (hF.1 t).mono hall
  · have := hF.1 t
    rw [h1] at this
    rw [h2, R_sc this]
    exact ⟨none, hn, Int.le_refl _, .inr ⟨rfl, rfl, rfl, rfl, none, rfl⟩⟩
end
end Go.Proofs.YtmckhoaekbeijaaGreat.E
