/- Regions whose order is drawn, reckoned. Plain Lean over the kit's model; no program. -/
import Derived.Test.YtnklnboglijcbaaE19
namespace Go.Proofs.Ytnklnboglijcbaa.E
open Go Go.RowKit
set_option linter.unusedVariables false

/-! ### names, and what they reach -/
def V.ids0 : V → List Nat
  | .ptr id _ _ _ => [id]
  | .sl id _ _ _ _ _ => [id]
  | _ => []
def V.ids1 : V → List Nat
  | .fn _ a b => a.flatMap V.ids0 ++ b.flatMap V.ids0
  | v => v.ids0
def V.ids2 : V → List Nat
  | .agg cs => cs.flatMap V.ids1
  | v => v.ids1
def V.ids : V → List Nat
  | .tup vs => vs.flatMap V.ids2
  | v => v.ids2
def Ob.ids (o : Ob) : List Nat := match o.row with
  | .any l => l.flatMap V.ids1
  | _ => []
def reach (σ : Sto) : Nat → List Nat → List Nat → List Nat
  | 0, _, acc => acc
  | _ + 1, [], acc => acc
  | k + 1, id :: todo, acc =>
    if acc.contains id then reach σ k todo acc
    else match σ id with
      | some ob => reach σ k (ob.ids ++ todo) (id :: acc)
      | none => reach σ k todo acc
def foot (o : Oper) (fr : Fm) (σ : Sto) : List Nat := reach σ 1000 (o.op.operands.toList.flatMap fun x => (opd fr x).ids) []
def restr (d : List Nat) (σ : Sto) : Sto := fun id => if d.contains id then σ id else none

def nums (n : Nat) : Nat → List Nat
  | 0 => []
  | k + 1 => n :: nums (n + 1) k
theorem nums_mem : ∀ (k n id : Nat), id ∈ nums n k ↔ n ≤ id ∧ id < n + k
  | 0, n, id => by simp [nums]
  | k + 1, n, id => by simp [nums, nums_mem k (n + 1) id]; omega

def domOf (p : Bool) (d : List Nat) : List Nat := if p then [] else d
theorem domOf_true (d : List Nat) : domOf true d = [] := rfl
theorem domOf_false (d : List Nat) : domOf false d = d := rfl

structure Rec where
  fr : Fm
  n : Nat
  σ : Sto
  v : V
  act : Bool
  pur : Bool
  news : List (Option Ob)
  muts : List (Nat × Option Ob)
  dom : List Nat

def Rec.wr (r : Rec) : List Nat := r.muts.map (·.1) ++ nums r.n r.news.length
def Rec.inr (r : Rec) (id : Nat) : Bool := r.dom.contains id || (Nat.ble r.n id && Nat.blt id (r.n + r.news.length))

/-- what is asked of an operation's objects. -/
def recChk (o : Oper) (r : Rec) : Bool :=
  r.dom.all (fun id => (r.σ id).isSome && Nat.blt id r.n) &&
  o.op.operands.toList.all (fun x => (opd r.fr x).inn r.dom.contains) &&
  r.dom.all (fun id => match r.σ id with | some ob => ob.row.inn r.dom.contains | none => true) &&
  r.muts.all (fun x => r.dom.contains x.1) &&
  r.wr.all (fun id => match ext r.n r.σ r.news r.muts id with | some ob => ob.row.inn r.inr | none => true) &&
  r.v.inn r.inr

/-- an operation among its own objects alone. -/
def runRec (P : Program) (ct : CT) (o : Oper) (s : St) (kn : Kn) (k : Rec → St → T (List Rec × St)) : T (List Rec × St) :=
  (dop P ct o s.fr s.n (restr (foot o s.fr s.σ) s.σ) kn).bind fun r =>
    let c : Rec := ⟨s.fr, s.n, s.σ, r.1, true, r.2.2.2.1, r.2.1, r.2.2.1, domOf r.2.2.2.1 (foot o s.fr s.σ)⟩
    if r.2.2.2.1 || recChk o c then k c (s.next o r) else .dead
def drec (P : Program) (ct : CT) (nt : Nat) (ops : Array Oper) : List Oper → St → T (List Rec × St)
  | [], s => .leaf ([], s)
  | o :: l, s =>
    if dstOk nt o.dst then
      match guardB s.fr ops o with
      | none => .dead
      | some none => runRec P ct o s s.kn fun c s1 => (drec P ct nt ops l s1).bind fun q => .leaf (c :: q.1, q.2)
      | some (some (b, want)) => ask b s.kn fun t kn =>
          if t == want then runRec P ct o s kn fun c s1 => (drec P ct nt ops l s1).bind fun q => .leaf (c :: q.1, q.2)
          else (drec P ct nt ops l (s.skip o kn)).bind fun q => .leaf (⟨s.fr, s.n, s.σ, .tup [], false, true, [], [], []⟩ :: q.1, q.2)
    else .dead

structure RecOk (P : Program) (ρ : Env) (nt : Nat) (ops : Array Oper) (o : Oper) (r : Rec) : Prop where
  dst : ∀ t, o.dst = some t → t < nt
  wants : wants ρ r.fr ops o = some r.act
  idle : r.act = false → r.v = .tup [] ∧ r.news = [] ∧ r.muts = []
  pdoes : r.act = true → r.pur = true → POp P ρ o r.fr r.v ∧ r.news = [] ∧ r.muts = []
  nodom : (r.act = false ∨ r.pur = true) → r.dom = []
  does : r.act = true → r.pur = false → recChk o r = true ∧ TOp P ρ o r.fr r.n (restr r.dom r.σ) r.v (r.n + r.news.length) (ext r.n (restr r.dom r.σ) r.news r.muts)

inductive RecsOk (P : Program) (ρ : Env) (nt : Nat) (ops : Array Oper) : List Oper → List Rec → St → St → Prop
  | nil (s : St) : RecsOk P ρ nt ops [] [] s s
  | cons {o : Oper} {l : List Oper} {r : Rec} {rs : List Rec} {s s2 s' : St} (h1 : r.fr = s.fr) (h2 : r.n = s.n) (h3 : r.σ = s.σ) (hr : RecOk P ρ nt ops o r) (e1 : s2.fr = upd r.fr o.dst r.v) (e2 : s2.n = r.n + r.news.length) (e3 : s2.σ = ext r.n r.σ r.news r.muts)
      (h : RecsOk P ρ nt ops l rs s2 s') : RecsOk P ρ nt ops (o :: l) (r :: rs) s s'

theorem drec_ok {P : Program} {ρ : Env} {ct : CT} (hct : CTOk P ρ ct) {e nt : Nat} {ops : Array Oper} : ∀ {l : List Oper} {s s' : St} {rs : List Rec}, e ≤ s.n → knOk ρ s.kn → (drec P ct nt ops l s).pick ρ = some (rs, s') →
    knOk ρ s'.kn ∧ e ≤ s'.n ∧ (okOk ρ s'.ok → RecsOk P ρ nt ops l rs s s' ∧ okOk ρ s.ok)
  | [], s, s', rs, he, hk, h => by cases h; exact ⟨hk, he, fun hok => ⟨.nil _, hok⟩⟩
  | o :: l, s, s', rs, he, hk, h => by
    unfold drec at h
    split at h
    case isFalse => cases h
    rename_i hd
    have run : ∀ {kn : Kn}, knOk ρ kn → wants ρ s.fr ops o = some true → (runRec P ct o s kn fun c s1 => (drec P ct nt ops l s1).bind fun q => .leaf (c :: q.1, q.2)).pick ρ = some (rs, s') → knOk ρ s'.kn ∧ e ≤ s'.n ∧ (okOk ρ s'.ok → RecsOk P ρ nt ops (o :: l) rs s s' ∧ okOk ρ s.ok) := by
      intro kn hkn hw h
      unfold runRec at h
      obtain ⟨r, h1, h2⟩ := T.bind_some h
      obtain ⟨v, news, muts, p, bs, kn'⟩ := r
      obtain ⟨k1, k2⟩ := dop_ok hct hkn h1
      simp only at h2
      split at h2
      · rename_i hchk
        obtain ⟨q, h3, h4⟩ := T.bind_some h2
        obtain ⟨rs', s2⟩ := q
        cases h4
        obtain ⟨g1, g2, g3⟩ := drec_ok hct (e := e) (by simp only [St.next]; omega) (by simpa only [St.next] using k1) h3
        refine ⟨g1, g2, fun hok => ?_⟩
        obtain ⟨t1, t2⟩ := g3 hok
        simp only [St.next] at t2
        obtain ⟨o1, o2⟩ := addOk_ok k1 t2
        obtain ⟨u1, u2⟩ := k2 o1
        refine ⟨.cons rfl rfl rfl ⟨dstOk_ok hd, hw, fun e => (by cases e), fun _ e => u2 e, fun e => ?_, fun _ e => ?_⟩ (St.next_fr _ _ _) rfl ?_ t1, o2⟩
        · rcases e with e | e
          · cases e
          · have e' : p = true := e
            subst e'; exact domOf_true (foot o s.fr s.σ)
        · have e' : p = false := e
          subst e'
          simp only [Bool.false_or] at hchk
          rw [domOf_false] at hchk ⊢
          exact ⟨hchk, u1⟩
        · exact St.next_σ _ _ _
      · cases h2
    split at h
    · cases h
    · rename_i hg
      exact run hk (guardB_none hg) h
    · rename_i b want hg
      have hw := guardB_some (ρ := ρ) hg
      obtain ⟨kn1, h1, h2⟩ := ask_ok b (k := fun t kn => if t == want then runRec P ct o s kn fun c s1 => (drec P ct nt ops l s1).bind fun q => .leaf (c :: q.1, q.2)
          else (drec P ct nt ops l (s.skip o kn)).bind fun q => .leaf (⟨s.fr, s.n, s.σ, .tup [], false, true, [], [], []⟩ :: q.1, q.2)) hk
      rw [h2] at h
      split at h
      · rename_i ht
        exact run h1 (by rw [hw, ht]) h
      · rename_i ht
        have ht' : (b.den ρ == want) = false := by simpa using ht
        obtain ⟨q, h3, h4⟩ := T.bind_some h
        obtain ⟨rs', s2⟩ := q
        cases h4
        obtain ⟨g1, g2, g3⟩ := drec_ok hct (e := e) (s := s.skip o kn1) he h1 h3
        refine ⟨g1, g2, fun hok => ?_⟩
        obtain ⟨t1, t2⟩ := g3 hok
        exact ⟨.cons rfl rfl rfl ⟨dstOk_ok hd, by rw [hw, ht'], fun _ => ⟨rfl, rfl, rfl⟩, fun e => (by cases e), fun _ => rfl, fun e => (by cases e)⟩ (St.skip_fr _ _ _) (by simp [St.skip]) (by rw [ext_nil]; rfl) t1, t2⟩

/-! ### the table of a region -/
def lx (rs : List Rec) (s' : St) : Lx where
  fr k := match rs[k]? with | some r => r.fr | none => s'.fr
  n k := match rs[k]? with | some r => r.n | none => s'.n
  σ k := match rs[k]? with | some r => r.σ | none => s'.σ
  v k := match rs[k]? with | some r => r.v | none => .und
  act k := match rs[k]? with | some r => r.act | none => false
  pur k := match rs[k]? with | some r => r.pur | none => true
  dom k := match rs[k]? with | some r => r.dom | none => []
  wr k := match rs[k]? with | some r => r.wr | none => []

theorem lx_zero {P : Program} {ρ : Env} {nt : Nat} {ops : Array Oper} {l : List Oper} {rs : List Rec} {s s' : St} (h : RecsOk P ρ nt ops l rs s s') : (lx rs s').fr 0 = s.fr ∧ (lx rs s').n 0 = s.n ∧ (lx rs s').σ 0 = s.σ := by
  cases h with
  | nil => exact ⟨rfl, rfl, rfl⟩
  | cons h1 h2 h3 => exact ⟨h1, h2, h3⟩
theorem recs_len {P : Program} {ρ : Env} {nt : Nat} {ops : Array Oper} {l : List Oper} {rs : List Rec} {s s' : St} (h : RecsOk P ρ nt ops l rs s s') : rs.length = l.length := by
  induction h with
  | nil => rfl
  | cons _ _ _ _ _ _ _ _ ih => simp [ih]
theorem lx_at {P : Program} {ρ : Env} {nt : Nat} {ops : Array Oper} {l : List Oper} {rs : List Rec} {s s' : St} (h : RecsOk P ρ nt ops l rs s s') : ∀ (k : Nat) (o : Oper), l[k]? = some o → ∃ r, rs[k]? = some r ∧ RecOk P ρ nt ops o r ∧
    (lx rs s').fr (k + 1) = upd r.fr o.dst r.v ∧ (lx rs s').n (k + 1) = r.n + r.news.length ∧ (lx rs s').σ (k + 1) = ext r.n r.σ r.news r.muts := by
  induction h with
  | nil => intro k o h; simp at h
  | cons h1 h2 h3 hr e1 e2 e3 ht ih =>
    intro k o hk
    cases k with
    | zero =>
      simp at hk; subst hk
      obtain ⟨z1, z2, z3⟩ := lx_zero ht
      refine ⟨_, by simp, hr, ?_, ?_, ?_⟩
      · rw [← e1, ← z1]; rfl
      · rw [← e2, ← z2]; rfl
      · rw [← e3, ← z3]; rfl
    | succ k =>
      obtain ⟨r, g1, g2, g3, g4, g5⟩ := ih k o (by simpa using hk)
      exact ⟨r, by simpa using g1, g2, g3, g4, g5⟩

/-- what is asked of the edges. -/
def regChk (ops : Array Oper) (D : Lx) : Bool :=
  (List.range ops.size).all fun j => match ops[j]? with
    | none => true
    | some oj => oj.after.toList.all (fun e => !Region.binds .any e || Nat.blt e.on j) && notSel oj.op &&
      (List.range j).all fun i => match ops[i]? with
        | none => true
        | some oi => !hang ops D i j oi oj || isBef ops ops.size i j

theorem ext_wr {r : Rec} {id : Nat} (h : r.wr.contains id = false) (σ : Sto) : ext r.n σ r.news r.muts id = σ id := by
  have h' : id ∉ r.wr := by simpa using h
  simp only [Rec.wr, List.mem_append, nums_mem, not_or, List.mem_map] at h'
  unfold ext
  rw [if_neg (by simp [Nat.blt]; omega)]
  cases hf : r.muts.find? (fun x => Nat.beq x.1 id) with
  | none => rfl
  | some x =>
    have h1 := List.find?_some hf
    have h2 := List.mem_of_find?_eq_some hf
    exact (h'.1 ⟨x, h2, by simpa using h1⟩).elim
theorem ext_in {r : Rec} {id : Nat} (h : r.wr.contains id = true) (σ σ' : Sto) : ext r.n σ r.news r.muts id = ext r.n σ' r.news r.muts id := by
  have h' : id ∈ r.wr := by simpa using h
  simp only [Rec.wr, List.mem_append, nums_mem, List.mem_map] at h'
  unfold ext
  split
  · rfl
  · rename_i hc
    cases hf : r.muts.find? (fun x => Nat.beq x.1 id) with
    | some x => rfl
    | none =>
      exfalso
      rcases h' with ⟨x, hx, e⟩ | h'
      · have := List.find?_eq_none.1 hf x hx
        simp [e] at this
      · apply hc; simp [Nat.blt]; omega

theorem lx_ok {P : Program} {ρ : Env} {nt : Nat} {ops : Array Oper} {rs : List Rec} {s s' : St} (h : RecsOk P ρ nt ops ops.toList rs s s') (hc : regChk ops (lx rs s') = true) : LxOk P ρ nt ops (lx rs s') := by
  have hat : ∀ (k : Nat) (o : Oper), ops[k]? = some o → ∃ r, rs[k]? = some r ∧ RecOk P ρ nt ops o r ∧ (lx rs s').fr (k + 1) = upd r.fr o.dst r.v ∧ (lx rs s').n (k + 1) = r.n + r.news.length ∧ (lx rs s').σ (k + 1) = ext r.n r.σ r.news r.muts :=
    fun k o ho => lx_at h k o (by simpa using ho)
  have hsz : ∀ i, i < ops.size → ∃ o, ops[i]? = some o := fun i hi => ⟨ops[i], by simp [hi]⟩
  have hlt : ∀ (i : Nat) (o : Oper), ops[i]? = some o → i < ops.size := fun i o ho => by rw [Array.getElem?_eq_some_iff] at ho; exact ho.1
  simp only [regChk, List.all_eq_true, List.mem_range] at hc
  have hj : ∀ (j : Nat) (oj : Oper), ops[j]? = some oj → (∀ e ∈ oj.after, Region.binds .any e = true → e.on < j) ∧ notSel oj.op = true ∧ ∀ (i : Nat) (oi : Oper), i < j → ops[i]? = some oi → hang ops (lx rs s') i j oi oj = true → isBef ops ops.size i j = true := by
    intro j oj ho
    have := hc j (hlt j oj ho)
    rw [ho] at this
    simp only [Bool.and_eq_true, List.all_eq_true, List.mem_range] at this
    refine ⟨fun e he hb => ?_, this.1.2, fun i oi hi hoi hh => ?_⟩
    · have h1 := this.1.1 e (by simpa using he)
      rw [hb] at h1
      have h2 : Nat.blt e.on j = true := by simpa only [Bool.not_true, Bool.false_or] using h1
      exact Nat.le_of_ble_eq_true h2
    · have h1 := this.2 i hi
      rw [hoi] at h1
      simp only [Bool.or_eq_true, Bool.not_eq_true'] at h1
      rcases h1 with h1 | h1
      · rw [hh] at h1; cases h1
      · exact h1
  -- what the check of an operation's objects says
  have chk : ∀ {o : Oper} {r : Rec}, recChk o r = true → (∀ id, r.dom.contains id = true → (r.σ id).isSome = true ∧ id < r.n) ∧ (∀ x ∈ o.op.operands, (opd r.fr x).inn r.dom.contains = true) ∧ (∀ id ob, r.dom.contains id = true → r.σ id = some ob → ob.row.inn r.dom.contains = true) ∧
      (∀ x ∈ r.muts, r.dom.contains x.1 = true) ∧ (∀ id ob, r.wr.contains id = true → ext r.n r.σ r.news r.muts id = some ob → ob.row.inn r.inr = true) ∧ r.v.inn r.inr = true := by
    intro o r hr
    simp only [recChk, Bool.and_eq_true, List.all_eq_true] at hr
    obtain ⟨⟨⟨⟨⟨c1, c2⟩, c3⟩, c4⟩, c5⟩, c6⟩ := hr
    refine ⟨fun id hid => ?_, fun x hx => c2 x (by simpa using hx), fun id ob hid e => ?_, c4, fun id ob hid e => ?_, c6⟩
    · have := c1 id (by simpa using hid)
      exact ⟨this.1, Nat.le_of_ble_eq_true this.2⟩
    · have := c3 id (by simpa using hid)
      rw [e] at this
      exact this
    · have := c5 id (by simpa using hid)
      rw [e] at this
      exact this
  have quiet : ∀ {o : Oper} {r : Rec}, RecOk P ρ nt ops o r → (r.act = false ∨ r.pur = true) → r.dom = [] ∧ r.wr = [] ∧ r.news = [] := by
    intro o r hr hq
    refine ⟨hr.nodom hq, ?_⟩
    cases ha : r.act with
    | false => obtain ⟨_, a, b⟩ := hr.idle ha; exact ⟨by simp [Rec.wr, a, b, nums], a⟩
    | true =>
      rcases hq with hq | hq
      · rw [ha] at hq; cases hq
      · obtain ⟨_, a, b⟩ := hr.pdoes ha hq; exact ⟨by simp [Rec.wr, a, b, nums], a⟩
  have loud : ∀ {o : Oper} {r : Rec}, RecOk P ρ nt ops o r → (r.dom ≠ [] ∨ r.wr ≠ [] ∨ r.news ≠ []) → r.act = true ∧ r.pur = false := by
    intro o r hr hne
    cases ha : r.act with
    | false => obtain ⟨a, b, c⟩ := quiet hr (.inl ha); rcases hne with h | h | h <;> contradiction
    | true => cases hp : r.pur with
      | true => obtain ⟨a, b, c⟩ := quiet hr (.inr hp); rcases hne with h | h | h <;> contradiction
      | false => exact ⟨rfl, rfl⟩
  have ne_of : ∀ {l : List Nat} {id : Nat}, l.contains id = true → l ≠ [] := by rintro l id h rfl; simp at h
  constructor
  · exact fun i o ho => (hj i o ho).1
  · intro i o ho cs b e; have := (hj i o ho).2.1; rw [e] at this; cases this
  · exact fun i j oi oj hij hoi hoj hh => (hj j oj hoj).2.2 i oi hij hoi hh
  · intro i o ho; obtain ⟨r, g1, g2, _⟩ := hat i o ho; exact g2.dst
  · intro i o ho; obtain ⟨r, g1, g2, _⟩ := hat i o ho; simp only [lx, g1]; exact g2.wants
  · intro i o ho; obtain ⟨r, g1, g2, g3, _⟩ := hat i o ho; rw [g3]; simp only [lx, g1]
  · intro i hi ha
    obtain ⟨o, ho⟩ := hsz i hi
    obtain ⟨r, g1, g2, g3, g4, g5⟩ := hat i o ho
    rw [g4]
    simp only [lx, g1] at ha ⊢
    obtain ⟨a, b, c⟩ := g2.idle ha
    exact ⟨a, by simp [b], by simp [Rec.wr, b, c, nums]⟩
  · intro i hi
    obtain ⟨o, ho⟩ := hsz i hi
    obtain ⟨r, g1, g2, g3, g4, g5⟩ := hat i o ho
    rw [g4]; simp only [lx, g1]; omega
  · intro i hi id hw
    obtain ⟨o, ho⟩ := hsz i hi
    obtain ⟨r, g1, g2, g3, g4, g5⟩ := hat i o ho
    rw [g5]; simp only [lx, g1] at hw ⊢
    exact ext_wr hw _
  · intro i hi id hd
    obtain ⟨o, ho⟩ := hsz i hi
    obtain ⟨r, g1, g2, g3, g4, g5⟩ := hat i o ho
    simp only [lx, g1] at hd ⊢
    obtain ⟨a, b⟩ := loud g2 (.inl (ne_of hd))
    exact (chk (g2.does a b).1).1 id hd
  · intro i hi id hw
    obtain ⟨o, ho⟩ := hsz i hi
    obtain ⟨r, g1, g2, g3, g4, g5⟩ := hat i o ho
    rw [g4]
    simp only [lx, g1] at hw ⊢
    obtain ⟨a, b⟩ := loud g2 (.inr (.inl (ne_of hw)))
    have h' : id ∈ r.wr := by simpa using hw
    simp only [Rec.wr, List.mem_append, nums_mem, List.mem_map] at h'
    rcases h' with ⟨x, hx, rfl⟩ | h'
    · exact .inl ((chk (g2.does a b).1).2.2.2.1 x hx)
    · exact .inr h'
  · intro i hi id h1 h2
    obtain ⟨o, ho⟩ := hsz i hi
    obtain ⟨r, g1, g2, g3, g4, g5⟩ := hat i o ho
    rw [g4] at h2
    simp only [lx, g1] at h1 h2 ⊢
    have : id ∈ r.wr := by simp only [Rec.wr, List.mem_append, nums_mem]; exact .inr ⟨h1, h2⟩
    simpa using this
  · intro i o ho ha hp x hx
    obtain ⟨r, g1, g2, g3, g4, g5⟩ := hat i o ho
    simp only [lx, g1] at ha hp ⊢
    exact (chk (g2.does ha hp).1).2.1 x hx
  · intro i hi id ob hd e
    obtain ⟨o, ho⟩ := hsz i hi
    obtain ⟨r, g1, g2, g3, g4, g5⟩ := hat i o ho
    simp only [lx, g1] at hd e ⊢
    obtain ⟨a, b⟩ := loud g2 (.inl (ne_of hd))
    exact (chk (g2.does a b).1).2.2.1 id ob hd e
  · intro i hi id ob hw e
    obtain ⟨o, ho⟩ := hsz i hi
    obtain ⟨r, g1, g2, g3, g4, g5⟩ := hat i o ho
    rw [g5] at e
    rw [g4]
    simp only [lx, g1] at hw e ⊢
    obtain ⟨a, b⟩ := loud g2 (.inr (.inl (ne_of hw)))
    exact (chk (g2.does a b).1).2.2.2.2.1 id ob hw e
  · intro i hi ha hp
    obtain ⟨o, ho⟩ := hsz i hi
    obtain ⟨r, g1, g2, g3, g4, g5⟩ := hat i o ho
    rw [g4]
    simp only [lx, g1] at ha hp ⊢
    exact (chk (g2.does ha hp).1).2.2.2.2.2
  · intro i o ho ha hp
    obtain ⟨r, g1, g2, g3, g4, g5⟩ := hat i o ho
    rw [g4]
    simp only [lx, g1] at ha hp ⊢
    obtain ⟨a, b, c⟩ := g2.pdoes ha hp
    exact ⟨a, by simp [b], by simp [Rec.wr, b, c, nums]⟩
  · intro i o ho ha hp
    obtain ⟨r, g1, g2, g3, g4, g5⟩ := hat i o ho
    rw [g4, g5]
    simp only [lx, g1] at ha hp ⊢
    have hT := (g2.does ha hp).2
    have hfun : (fun id => if r.dom.contains id || r.wr.contains id then ext r.n r.σ r.news r.muts id else none) = ext r.n (restr r.dom r.σ) r.news r.muts := by
      funext id
      cases hw : r.wr.contains id with
      | true => simp only [Bool.or_true, if_true]; exact ext_in hw _ _
      | false =>
        rw [ext_wr hw, ext_wr hw]
        simp only [Bool.or_false, restr]
    rw [hfun]
    exact hT

end Go.Proofs.Ytnklnboglijcbaa.E
