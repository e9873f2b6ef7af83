/- Objects, worlds, steps, the frame. Plain Lean over the kit's model; no program. -/
import Derived.Test.YtnklnboglijcbaaE2
namespace Go.Proofs.Ytnklnboglijcbaa.E
open Go Go.RowKit
set_option linter.unusedVariables false

/-- an object: its cells; is it written?; the type of an element. -/
structure Ob where
  row : Row
  rw : Bool
  e : TypeId
abbrev Sto := Nat → Option Ob

/-- what stands in an object: these values. -/
def RH (β : Bt) : Row → List Value → Prop
  | .any cs, xs => F2 (R1 β) cs xs
  | r, xs => Fr r β.g xs
theorem RH.mono {β β' : Bt} (hb : β.all β') {r : Row} {xs} (h : RH β r xs) : RH β' r xs := by
  cases r with
  | any cs => exact F2.mono (fun _ _ => R1.mono hb) h
  | _ => (simp only [RH] at h ⊢; exact Fr.mono _ hb.g h)
def Row.inn (p : Nat → Bool) : Row → Bool
  | .any l => l.all (V.in1 p)
  | _ => true
theorem RH.names {β β' : Bt} {p : Nat → Bool} (hg : β.g.le β'.g) (hp : ∀ id, p id = true → ∀ b, β.nm id = some b → β'.nm id = some b) {r : Row} {xs} (h : RH β r xs) (hr : r.inn p = true) : RH β' r xs := by
  cases r with
  | any cs => exact F2.names1 hg hp h hr
  | _ => (simp only [RH] at h ⊢; exact Fr.mono _ hg h)
theorem Row.inn_mono {p q : Nat → Bool} (h : ∀ id, p id = true → q id = true) {r : Row} (hr : r.inn p = true) : r.inn q = true := by
  have h0 : ∀ v : V, v.in0 p = true → v.in0 q = true := fun v hv => by cases v <;> first | exact h _ hv | rfl
  have h1 : ∀ v : V, v.in1 p = true → v.in1 q = true := fun v hv => by
    cases v with
    | fn f a b =>
      simp only [V.in1, Bool.and_eq_true, List.all_eq_true] at hv ⊢
      exact ⟨fun v hm => h0 v (hv.1 v hm), fun v hm => h0 v (hv.2 v hm)⟩
    | _ => (simp only [V.in1] at hv ⊢; exact h0 _ hv)
  cases r with
  | any cs => simp only [Row.inn, List.all_eq_true] at hr ⊢; exact fun v hm => h1 v (hr v hm)
  | _ => rfl

def ObOk (β : Bt) (w : World) (q : Option Bl) (o : Ob) : Prop :=
  match q with
  | none => RH β o.row []
  | some p => p.b < w.heap.size ∧ ∃ cur xs rest fz, w.heap[p.b]? = some (.cells cur o.e fz) ∧ cur.size = p.s ∧ cur.toList = xs ++ rest ∧ RH β o.row xs ∧ (o.rw = true → fz = (0, 0)) ∧ (o.rw = false → β.g.fz p.b = some cur)

/-- the blocks that are ours to write. -/
def Wr (β : Bt) (σ : Sto) (b : Nat) : Prop := ∃ id o p, σ id = some o ∧ o.rw = true ∧ β.nm id = some (some p) ∧ p.b = b

structure SimL (ρ : Env) (β : Bt) (σ : Sto) (w : World) : Prop where
  env : β.g.env = ρ
  ob : ∀ id o, σ id = some o → ∃ q, β.nm id = some q ∧ ObOk β w q o
  sep : ∀ id o id' o' p p', σ id = some o → o.rw = true → σ id' = some o' → id ≠ id' → β.nm id = some (some p) → β.nm id' = some (some p') → p.b ≠ p'.b
  fzs : ∀ b cs, β.g.fz b = some cs → (∃ e f, w.heap[b]? = some (.cells cs e f)) ∧ ¬ Wr β σ b ∧ β.g.kv b = none
  kvs : ∀ b c, β.g.kv b = some c → (∃ o, w.heap[b]? = some o ∧ KI c.1 c.2 o) ∧ ¬ Wr β σ b
structure Sim (ρ : Env) (n : Nat) (β : Bt) (σ : Sto) (w : World) : Prop extends SimL ρ β σ w where
  fresh : ∀ id, n ≤ id → β.nm id = none

theorem Sim.none {ρ n β σ w} (h : Sim ρ n β σ w) {id : Nat} (hi : n ≤ id) : σ id = .none := by
  cases e : σ id with
  | none => rfl
  | some o => obtain ⟨p, hp, _⟩ := h.ob id o e; rw [h.fresh id hi] at hp; cases hp
theorem Sim.lt {ρ n β σ w} (h : Sim ρ n β σ w) {id : Nat} {q} (hi : β.nm id = some q) : id < n := by
  apply Classical.byContradiction; intro hc
  rw [h.fresh id (Nat.le_of_not_lt hc)] at hi; cases hi
theorem SimL.wr_lt {ρ β σ w} (h : SimL ρ β σ w) {b : Nat} (hw : Wr β σ b) : b < w.heap.size := by
  obtain ⟨id, o, p, h1, h2, h3, rfl⟩ := hw
  obtain ⟨q, hq, hok⟩ := h.ob id o h1
  rw [h3] at hq; cases hq
  exact hok.1
theorem SimL.fz_lt {ρ β σ w} (h : SimL ρ β σ w) {b : Nat} {cs} (hw : β.g.fz b = some cs) : b < w.heap.size := by
  obtain ⟨⟨e, f, h1⟩, _⟩ := h.fzs b cs hw
  rw [Array.getElem?_eq_some_iff] at h1; exact h1.1
theorem SimL.kv_lt {ρ β σ w} (h : SimL ρ β σ w) {b : Nat} {cs} (hw : β.g.kv b = some cs) : b < w.heap.size := by
  obtain ⟨⟨e, h1, _⟩, _⟩ := h.kvs b cs hw
  rw [Array.getElem?_eq_some_iff] at h1; exact h1.1

/-- What a step does to a world: nothing but to its own blocks, and within their rule to those that keep one. -/
structure Step (e : Nat) (β : Bt) (σ : Sto) (w : World) (β' : Bt) (σ' : Sto) (w' : World) : Prop where
  le : β.le e β'
  os : w'.os = w.os
  tape : w'.tape = w.tape
  output : w'.output = w.output
  size : w.heap.size ≤ w'.heap.size
  fr : ∀ b, b < w.heap.size → ¬ Wr β σ b → β.g.kv b = none → w'.heap[b]? = w.heap[b]?
  own : ∀ b, Wr β' σ' b → Wr β σ b ∨ w.heap.size ≤ b
  fzn : ∀ b cs, β'.g.fz b = some cs → β.g.fz b = some cs ∨ Wr β σ b ∨ w.heap.size ≤ b
  kvn : ∀ b c, β'.g.kv b = some c → β.g.kv b = some c ∨ Wr β σ b ∨ w.heap.size ≤ b

theorem Step.refl {e β σ w} : Step e β σ w β σ w :=
  ⟨Bt.le.refl _ β, rfl, rfl, rfl, Nat.le_refl _, fun _ _ _ _ => rfl, fun b h => .inl h, fun b c h => .inl h, fun b c h => .inl h⟩
theorem Step.weaken {e e' β σ w β' σ' w'} (h : Step e β σ w β' σ' w') (he : e' ≤ e) : Step e' β σ w β' σ' w' :=
  ⟨h.le.weaken he, h.os, h.tape, h.output, h.size, h.fr, h.own, h.fzn, h.kvn⟩
theorem Step.trans {e β σ w β1 σ1 w1 β2 σ2 w2} (h : Step e β σ w β1 σ1 w1) (k : Step e β1 σ1 w1 β2 σ2 w2) : Step e β σ w β2 σ2 w2 where
  le := h.le.trans k.le
  os := k.os.trans h.os
  tape := k.tape.trans h.tape
  output := k.output.trans h.output
  size := Nat.le_trans h.size k.size
  fr := fun b hb hw hk => by
    have hk1 : β1.g.kv b = none := by
      cases e : β1.g.kv b with
      | none => rfl
      | some c =>
        rcases h.kvn b c e with h1 | h1 | h1
        · rw [hk] at h1; cases h1
        · exact (hw h1).elim
        · omega
    have hw1 : ¬ Wr β1 σ1 b := fun hc => by
      rcases h.own b hc with h1 | h1
      · exact hw h1
      · omega
    rw [k.fr b (Nat.lt_of_lt_of_le hb h.size) hw1 hk1, h.fr b hb hw hk]
  own := fun b hb => by
    rcases k.own b hb with h1 | h1
    · exact h.own b h1
    · exact .inr (Nat.le_trans h.size h1)
  fzn := fun b c hb => by
    rcases k.fzn b c hb with h1 | h1 | h1
    · exact h.fzn b c h1
    · rcases h.own b h1 with h2 | h2
      · exact .inr (.inl h2)
      · exact .inr (.inr h2)
    · exact .inr (.inr (Nat.le_trans h.size h1))
  kvn := fun b c hb => by
    rcases k.kvn b c hb with h1 | h1 | h1
    · exact h.kvn b c h1
    · rcases h.own b h1 with h2 | h2
      · exact .inr (.inl h2)
      · exact .inr (.inr h2)
    · exact .inr (.inr (Nat.le_trans h.size h1))

/-- fewer objects. -/
def Sto.le (σ τ : Sto) : Prop := ∀ id o, σ id = some o → τ id = some o
theorem Sto.le.refl (σ : Sto) : σ.le σ := fun _ _ h => h
theorem Wr.mono {β : Bt} {σ τ : Sto} (hs : σ.le τ) {b : Nat} (h : Wr β σ b) : Wr β τ b := by
  obtain ⟨id, o, p, h1, r⟩ := h; exact ⟨id, o, p, hs _ _ h1, r⟩
theorem SimL.drop {ρ β σ τ w} (h : SimL ρ β τ w) (hs : σ.le τ) : SimL ρ β σ w :=
  ⟨h.env, fun id o e => h.ob id o (hs id o e), fun id o id' o' p p' e hr e' => h.sep id o id' o' p p' (hs _ _ e) hr (hs _ _ e'),
   fun b cs e => ⟨(h.fzs b cs e).1, fun hc => (h.fzs b cs e).2.1 (hc.mono hs), (h.fzs b cs e).2.2⟩, fun b c e => ⟨(h.kvs b c e).1, fun hc => (h.kvs b c e).2 (hc.mono hs)⟩⟩
theorem Sim.drop {ρ n β σ τ w} (h : Sim ρ n β τ w) (hs : σ.le τ) : Sim ρ n β σ w := ⟨h.toSimL.drop hs, h.fresh⟩
theorem Step.dropEnd {e β σ w β' σ' τ' w'} (h : Step e β σ w β' τ' w') (hs : σ'.le τ') : Step e β σ w β' σ' w' :=
  ⟨h.le, h.os, h.tape, h.output, h.size, h.fr, fun b hb => h.own b (hb.mono hs), h.fzn, h.kvn⟩

/-- an object whose block is not touched. -/
theorem ObOk.keep {β β' : Bt} {w w' : World} {q : Option Bl} {o : Ob} (h : ObOk β w q o) (hb : ∀ xs, RH β o.row xs → RH β' o.row xs) (hf : ∀ b cs, β.g.fz b = some cs → β'.g.fz b = some cs) (hsz : w.heap.size ≤ w'.heap.size) (hk : ∀ p, q = some p → w'.heap[p.b]? = w.heap[p.b]?) : ObOk β' w' q o := by
  cases q with
  | none => exact hb _ h
  | some p =>
    obtain ⟨hlt, cur, xs, rest, fz, h1, h2, h3, h4, h5, h6⟩ := h
    exact ⟨Nat.lt_of_lt_of_le hlt hsz, cur, xs, rest, fz, (hk p rfl).trans h1, h2, h3, hb _ h4, h5, fun hr => hf _ _ (h6 hr)⟩

/-! ### the frame -/
/-- an operation among few objects, seen among more of them. 'new': the names that it may give. -/
theorem frameL {ρ : Env} {n : Nat} {β βi βi' : Bt} {τ σs σs' : Sto} {w w' : World} {new : Nat → Bool} (hS : SimL ρ β τ w) (hs : σs.le τ) (hβi : ∀ id, (σs id).isSome = true → βi.nm id = β.nm id) (hlt : ∀ id, (σs id).isSome = true → id < n) (hg : βi.g = β.g) (hst : Step n βi σs w βi' σs' w') (h' : SimL ρ βi' σs' w')
    (hnew : ∀ id, new id = true → β.nm id = none) (hdom : ∀ id, (σs' id).isSome = true → (σs id).isSome = true ∨ new id = true) (hcells : ∀ id o, σs' id = some o → o.row.inn (fun id => (σs id).isSome || new id) = true) :
    let β' : Bt := ⟨βi'.g, fun id => if new id then βi'.nm id else β.nm id⟩
    let τ' : Sto := fun id => if (σs id).isSome || new id then σs' id else τ id
    SimL ρ β' τ' w' ∧ (∀ e, Step e β τ w β' τ' w') ∧ β.all β' ∧ (∀ v x, v.inn (fun id => (σs id).isSome || new id) = true → R βi' v x → R β' v x) := by
  intro β' τ'
  have hag : ∀ id, ((σs id).isSome || new id) = true → ∀ b, βi'.nm id = some b → β'.nm id = some b := by
    intro id hid b hb
    by_cases hn : new id = true
    · simp only [β', hn, if_true]; exact hb
    · simp only [β', hn]
      have hso : (σs id).isSome = true := by simpa [hn] using hid
      obtain ⟨o, ho⟩ := Option.isSome_iff_exists.1 hso
      obtain ⟨q, hq, _⟩ := hS.ob id o (hs _ _ ho)
      have h1 : βi.nm id = some q := by rw [hβi id hso]; exact hq
      have h2 := hst.le.nm _ _ (hlt id hso) h1
      rw [hb] at h2; cases h2
      exact hq
  have hgle : β.g.le β'.g := by have := hst.le.g; rw [hg] at this; exact this
  have hall : β.all β' := by
    refine ⟨hgle, fun id q hq => ?_⟩
    by_cases hn : new id = true
    · rw [hnew id hn] at hq; cases hq
    · simp only [β', hn]; exact hq
  have hcase : ∀ id o, τ' id = some o → (σs' id = some o ∧ ((σs id).isSome || new id) = true) ∨ (σs id = none ∧ new id = false ∧ τ id = some o) := by
    intro id o e
    simp only [τ'] at e
    split at e
    · exact .inl ⟨e, by assumption⟩
    · rename_i hc; simp only [Bool.or_eq_true, not_or, Bool.not_eq_true, Option.isSome_eq_false_iff, Option.isNone_iff_eq_none] at hc; exact .inr ⟨hc.1, hc.2, e⟩
  -- what is known of an object's place
  have hplace : ∀ id o, σs' id = some o → ((σs id).isSome || new id) = true → ∃ q, βi'.nm id = some q ∧ β'.nm id = some q ∧ ObOk β' w' q o := by
    intro id o e hid
    obtain ⟨q, hq, hok⟩ := h'.ob id o e
    exact ⟨q, hq, hag id hid q hq, hok.keep (fun xs hx => RH.names (β := βi') (β' := β') (Gm.le.refl βi'.g) hag hx (hcells id o e)) (fun _ _ h => h) (Nat.le_refl _) (fun _ _ => rfl)⟩
  have hold : ∀ id, new id = false → β'.nm id = β.nm id := fun id h2 => by simp [β', h2]
  have hWri : ∀ b, Wr βi σs b → Wr β τ b := by
    rintro b ⟨id, o, q, e, hr, hq, hb⟩
    exact ⟨id, o, q, hs _ _ e, hr, by rw [← hβi id (by rw [e]; rfl)]; exact hq, hb⟩
  -- an other object's block is not written
  have hoth : ∀ id o p, σs id = none → τ id = some o → β.nm id = some (some p) → ¬ Wr βi σs p.b := by
    rintro id o q e1 e2 e3 ⟨id0, o0, p0, f1, f2, f3, f4⟩
    refine hS.sep id0 o0 id o p0 q (hs _ _ f1) f2 e2 ?_ (by rw [← hβi id0 (by rw [f1]; rfl)]; exact f3) e3 f4
    rintro rfl; rw [e1] at f1; cases f1
  have hkv : ∀ id o p, τ id = some o → β.nm id = some (some p) → β.g.kv p.b = none := by
    intro id o p e1 e2
    cases ho : o.rw with
    | true =>
      cases e : β.g.kv p.b with
      | none => rfl
      | some c => exact ((hS.kvs _ _ e).2 ⟨id, o, p, e1, ho, e2, rfl⟩).elim
    | false =>
      obtain ⟨q, hq, hok⟩ := hS.ob id o e1
      rw [e2] at hq; cases hq
      obtain ⟨_, cur, xs, rest, fz, _, _, _, _, _, h6⟩ := hok
      exact (hS.fzs _ _ (h6 ho)).2.2
  have hsame : ∀ id o q, σs id = none → τ id = some o → β.nm id = some q → ∀ p, q = some p → w'.heap[p.b]? = w.heap[p.b]? := by
    rintro id o q e1 e2 e3 p rfl
    have hlt : p.b < w.heap.size := by
      obtain ⟨q', hq', hok⟩ := hS.ob id o e2
      rw [e3] at hq'; cases hq'
      exact hok.1
    exact hst.fr p.b hlt (hoth id o p e1 e2 e3) (by rw [hg]; exact hkv id o p e2 e3)
  have hWr' : ∀ b, Wr β' τ' b → (Wr βi' σs' b) ∨ (∃ id o p, σs id = none ∧ new id = false ∧ τ id = some o ∧ o.rw = true ∧ β.nm id = some (some p) ∧ p.b = b) := by
    rintro b ⟨id, o, p, e, hr, hp, rfl⟩
    rcases hcase id o e with ⟨e, hid⟩ | ⟨e0, en, e⟩
    · obtain ⟨q, hq1, hq2, _⟩ := hplace id o e hid
      rw [hp] at hq2; cases hq2
      exact .inl ⟨id, o, p, e, hr, hq1, rfl⟩
    · rw [hold id en] at hp
      exact .inr ⟨id, o, p, e0, en, e, hr, hp, rfl⟩
  have hown : ∀ b, Wr βi' σs' b → Wr βi σs b ∨ w.heap.size ≤ b := hst.own
  refine ⟨⟨h'.env, ?_, ?_, ?_, ?_⟩, fun e => ⟨⟨hgle, fun id q _ h => hall.nm id q h⟩, hst.os, hst.tape, hst.output, hst.size, fun b hb hw hk => hst.fr b hb (fun hc => hw (hWri b hc)) (by rw [hg]; exact hk), ?_, ?_, ?_⟩, hall, fun v x hv hR => R.names (β := βi') (β' := β') (Gm.le.refl βi'.g) hag hR hv⟩
  · intro id o e
    rcases hcase id o e with ⟨e, hid⟩ | ⟨e0, en, e⟩
    · obtain ⟨q, _, hq, hok⟩ := hplace id o e hid
      exact ⟨q, hq, hok⟩
    · obtain ⟨q, hq, hok⟩ := hS.ob id o e
      exact ⟨q, by rw [hold id en]; exact hq, hok.keep (fun xs hx => hx.mono hall) hgle.fz hst.size (hsame id o q e0 e hq)⟩
  · intro id o id' o' q q' e hr e' hne hq hq'
    rcases hcase id o e with ⟨e, hid⟩ | ⟨e0, en, e⟩ <;> rcases hcase id' o' e' with ⟨e', hid'⟩ | ⟨e0', en', e'⟩
    · obtain ⟨q1, h1, h2, _⟩ := hplace id o e hid
      obtain ⟨q2, h3, h4, _⟩ := hplace id' o' e' hid'
      rw [hq] at h2; cases h2
      rw [hq'] at h4; cases h4
      exact h'.sep id o id' o' q q' e hr e' hne h1 h3
    · obtain ⟨q1, h1, h2, _⟩ := hplace id o e hid
      rw [hq] at h2; cases h2
      rw [hold id' en'] at hq'
      rcases hown q.b ⟨id, o, q, e, hr, h1, rfl⟩ with hw | hge
      · intro hc
        exact hoth id' o' q' e0' e' hq' (by rw [← hc]; exact hw)
      · obtain ⟨q2, h3, hok'⟩ := hS.ob id' o' e'
        rw [hq'] at h3; cases h3
        have := hok'.1; omega
    · obtain ⟨q2, h3, h4, _⟩ := hplace id' o' e' hid'
      rw [hq'] at h4; cases h4
      rw [hold id en] at hq
      have hWq : Wr β τ q.b := ⟨id, o, q, e, hr, hq, rfl⟩
      have hlt : q.b < w.heap.size := hS.wr_lt hWq
      intro hc
      cases ho' : o'.rw with
      | true =>
        rcases hown q'.b ⟨id', o', q', e', ho', h3, rfl⟩ with hw | hge
        · exact hoth id o q e0 e hq (by rw [hc]; exact hw)
        · omega
      | false =>
        obtain ⟨q3, hq3, hok'⟩ := h'.ob id' o' e'
        rw [h3] at hq3; cases hq3
        obtain ⟨_, cur, xs, rest, fz, _, _, _, _, _, h6⟩ := hok'
        rcases hst.fzn _ _ (h6 ho') with k1 | k1 | k1
        · rw [hg] at k1; exact (hS.fzs _ _ k1).2.1 (by rw [← hc]; exact hWq)
        · exact hoth id o q e0 e hq (by rw [hc]; exact k1)
        · omega
    · rw [hold id en] at hq
      rw [hold id' en'] at hq'
      exact hS.sep id o id' o' q q' e hr e' hne hq hq'
  · intro b cs hb
    have h1 := h'.fzs b cs hb
    refine ⟨h1.1, fun hc => ?_, h1.2.2⟩
    rcases hWr' b hc with hc | ⟨id, o, p, e0, en, e, hr, hp, rfl⟩
    · exact h1.2.1 hc
    · have hWq : Wr β τ p.b := ⟨id, o, p, e, hr, hp, rfl⟩
      rcases hst.fzn _ _ hb with k1 | k1 | k1
      · rw [hg] at k1; exact (hS.fzs _ _ k1).2.1 hWq
      · exact hoth id o p e0 e hp k1
      · have := hS.wr_lt hWq; omega
  · intro b c hb
    have h1 := h'.kvs b c hb
    refine ⟨h1.1, fun hc => ?_⟩
    rcases hWr' b hc with hc | ⟨id, o, p, e0, en, e, hr, hp, rfl⟩
    · exact h1.2 hc
    · have hWq : Wr β τ p.b := ⟨id, o, p, e, hr, hp, rfl⟩
      rcases hst.kvn _ _ hb with k1 | k1 | k1
      · rw [hg] at k1; exact (hS.kvs _ _ k1).2 hWq
      · exact hoth id o p e0 e hp k1
      · have := hS.wr_lt hWq; omega
  · intro b hb
    rcases hWr' b hb with hc | ⟨id, o, p, e0, en, e, hr, hp, rfl⟩
    · rcases hown b hc with h1 | h1
      · exact .inl (hWri b h1)
      · exact .inr h1
    · exact .inl ⟨id, o, p, e, hr, hp, rfl⟩
  · intro b c hb
    rcases hst.fzn b c hb with h1 | h1 | h1
    · rw [hg] at h1; exact .inl h1
    · exact .inr (.inl (hWri b h1))
    · exact .inr (.inr h1)
  · intro b c hb
    rcases hst.kvn b c hb with h1 | h1 | h1
    · rw [hg] at h1; exact .inl h1
    · exact .inr (.inl (hWri b h1))
    · exact .inr (.inr h1)
end Go.Proofs.Ytnklnboglijcbaa.E
