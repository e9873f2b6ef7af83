/- Values and stores without addresses, and what they say of a world: a small logic of calls that make and fill memory of their own. Plain Lean over the kit's model; no program. -/
import Derived.Maps.AppendAt
import Derived.Laws.Entries
import Derived.Laws.NewBlocks
import Derived.Orders
import Derived.Below
namespace Go.Proofs.Ytnklnboglijcbaa.D
open Go Go.RowKit

/-- A value, its addresses being names of objects. -/
inductive V where
  | und
  | sc (x : Value)
  | ptr (id off : Nat)
  | sl (id off len z : Nat) (top : Bool) (cap : Option Nat)
  | agg (cs : List V)
  | tup (vs : List V)
  | fn (f : Fn) (first captured : List V)
  deriving Inhabited

/-- where an object lies: block, first cell, and the cells of the whole block. -/
structure Bl where
  b : Nat
  d : Nat
  s : Nat

abbrev Bt := Nat → Option Bl

def F2 (r : V → Value → Prop) : List V → List Value → Prop
  | [], [] => True
  | a :: as, x :: xs => r a x ∧ F2 r as xs
  | _, _ => False

theorem F2.nil {r : V → Value → Prop} : F2 r [] [] := trivial
theorem F2.cons {r : V → Value → Prop} {a x as xs} (h : r a x) (t : F2 r as xs) : F2 r (a :: as) (x :: xs) := ⟨h, t⟩
theorem F2.length {r : V → Value → Prop} : ∀ {as xs}, F2 r as xs → as.length = xs.length
  | [], [], _ => rfl
  | _ :: _, _ :: _, h => by simp [F2.length h.2]
theorem F2.mono {r r' : V → Value → Prop} (hr : ∀ a x, r a x → r' a x) : ∀ {as xs}, F2 r as xs → F2 r' as xs
  | [], [], _ => trivial
  | _ :: _, _ :: _, h => ⟨hr _ _ h.1, F2.mono hr h.2⟩
theorem F2.app {r : V → Value → Prop} : ∀ {as xs bs ys}, F2 r as xs → F2 r bs ys → F2 r (as ++ bs) (xs ++ ys)
  | [], [], _, _, _, h => h
  | _ :: _, _ :: _, _, _, h, h' => ⟨h.1, F2.app h.2 h'⟩
theorem F2.take {r : V → Value → Prop} : ∀ (n : Nat) {as xs}, F2 r as xs → F2 r (as.take n) (xs.take n)
  | 0, _, _, _ => by simp [F2]
  | _ + 1, [], [], _ => trivial
  | n + 1, _ :: _, _ :: _, h => ⟨h.1, F2.take n h.2⟩
theorem F2.drop {r : V → Value → Prop} : ∀ (n : Nat) {as xs}, F2 r as xs → F2 r (as.drop n) (xs.drop n)
  | 0, _, _, h => by simpa using h
  | _ + 1, [], [], _ => trivial
  | n + 1, _ :: _, _ :: _, h => by simpa using F2.drop n h.2
theorem F2.get {r : V → Value → Prop} : ∀ {as xs}, F2 r as xs → ∀ (i : Nat) (v : V), as[i]? = some v → ∃ x, xs[i]? = some x ∧ r v x
  | [], [], _, i, v, h => by simp at h
  | a :: as, x :: xs, h, 0, v, hv => ⟨x, by simp, by simp at hv; exact hv ▸ h.1⟩
  | a :: as, x :: xs, h, i + 1, v, hv => by simpa using F2.get h.2 i v (by simpa using hv)
theorem F2.getx {r : V → Value → Prop} : ∀ {as xs}, F2 r as xs → ∀ (i : Nat) (x : Value), xs[i]? = some x → ∃ v, as[i]? = some v ∧ r v x
  | [], [], _, i, v, h => by simp at h
  | a :: as, x :: xs, h, 0, v, hv => ⟨a, by simp, by simp at hv; exact hv ▸ h.1⟩
  | a :: as, x :: xs, h, i + 1, v, hv => by simpa using F2.getx h.2 i v (by simpa using hv)
theorem F2.set {r : V → Value → Prop} : ∀ {as xs} (i : Nat) {v x}, F2 r as xs → r v x → F2 r (as.set i v) (xs.set i x)
  | [], [], _, _, _, _, _ => by simp [F2]
  | _ :: _, _ :: _, 0, _, _, h, hv => ⟨hv, h.2⟩
  | _ :: _, _ :: _, i + 1, _, _, h, hv => ⟨h.1, F2.set i h.2 hv⟩
theorem F2.of_get {r : V → Value → Prop} : ∀ {as : List V} {xs : List Value}, as.length = xs.length → (∀ (i : Nat) (v : V) (x : Value), as[i]? = some v → xs[i]? = some x → r v x) → F2 r as xs
  | [], [], _, _ => trivial
  | a :: as, x :: xs, hl, h => ⟨h 0 a x (by simp) (by simp), F2.of_get (by simpa using hl) fun i v y hv hy => h (i + 1) v y (by simpa using hv) (by simpa using hy)⟩

/-- an address of an object. -/
def At (β : Bt) (id off : Nat) (a : Addr) : Prop := ∃ p, β id = some p ∧ a = ⟨p.b, p.d + off, none⟩

/-- values of one cell that are no functions. -/
def R0 (β : Bt) : V → Value → Prop
  | .sc y, x => x = y ∧ y.oneCell' = true
  | .ptr id off, x => ∃ a, x = .pointer (some a) ∧ At β id off a
  | .sl id off len z top cap, x => ∃ p c, β id = some p ∧ ∃ d', x = .slice (some ⟨p.b, d', none⟩) len c ∧ (d' = p.d + off ∨ (len = 0 ∧ top = false)) ∧ len ≤ c ∧ (∀ k, cap = some k → c = k) ∧ (top = true → off = 0 ∧ p.d = 0 ∧ c * z = p.s ∧ c ≤ maxLen)
  | _, _ => False
/-- values of one cell. -/
def R1 (β : Bt) : V → Value → Prop
  | .fn f a b, x => ∃ xs ys, x = .func f xs ys ∧ F2 (R0 β) a xs.toList ∧ F2 (R0 β) b ys.toList
  | v, x => R0 β v x
/-- values of one variable. -/
def R2 (β : Bt) : V → Value → Prop
  | .agg cs, x => ∃ xs, x = .agg xs ∧ F2 (R1 β) cs xs.toList
  | v, x => R1 β v x
/-- whatever stands in a slot. -/
def R (β : Bt) : V → Value → Prop
  | .und, _ => True
  | .tup vs, x => ∃ xs, x = .tuple xs ∧ F2 (R2 β) vs xs.toList
  | v, x => R2 β v x

def Bt.le (β β' : Bt) : Prop := ∀ id p, β id = some p → β' id = some p
theorem Bt.le.refl (β : Bt) : β.le β := fun _ _ h => h
theorem Bt.le.trans {a b c : Bt} (h : a.le b) (h' : b.le c) : a.le c := fun id p e => h' id p (h id p e)

theorem R0.mono {β β' : Bt} (hb : β.le β') {v x} (h : R0 β v x) : R0 β' v x := by
  cases v with
  | sc y => exact h
  | ptr id off => obtain ⟨a, e, p, hp, ha⟩ := h; exact ⟨a, e, p, hb _ _ hp, ha⟩
  | sl id off len z top cap => obtain ⟨p, c, hp, r⟩ := h; exact ⟨p, c, hb _ _ hp, r⟩
  | _ => exact h
theorem R1.mono {β β' : Bt} (hb : β.le β') {v x} (h : R1 β v x) : R1 β' v x := by
  cases v with
  | fn f a b => obtain ⟨xs, ys, e, h1, h2⟩ := h; exact ⟨xs, ys, e, h1.mono fun _ _ => R0.mono hb, h2.mono fun _ _ => R0.mono hb⟩
  | _ => (simp only [R1] at h ⊢; exact R0.mono hb h)
theorem R2.mono {β β' : Bt} (hb : β.le β') {v x} (h : R2 β v x) : R2 β' v x := by
  cases v with
  | agg cs => obtain ⟨xs, e, h1⟩ := h; exact ⟨xs, e, h1.mono fun _ _ => R1.mono hb⟩
  | _ => (simp only [R2] at h ⊢; exact R1.mono hb h)
theorem R.mono {β β' : Bt} (hb : β.le β') {v x} (h : R β v x) : R β' v x := by
  cases v with
  | und => trivial
  | tup vs => obtain ⟨xs, e, h1⟩ := h; exact ⟨xs, e, h1.mono fun _ _ => R2.mono hb⟩
  | _ => (simp only [R] at h ⊢; exact R2.mono hb h)

theorem R0.one {β : Bt} {v x} (h : R0 β v x) : x.oneCell' = true := by
  cases v with
  | sc y => obtain ⟨rfl, h⟩ := h; exact h
  | ptr id off => obtain ⟨a, rfl, _⟩ := h; rfl
  | sl id off len z top cap => obtain ⟨p, c, _, d', rfl, _⟩ := h; rfl
  | _ => exact h.elim
theorem R1.one {β : Bt} {v x} (h : R1 β v x) : x.oneCell' = true := by
  cases v with
  | fn f a b => obtain ⟨xs, ys, rfl, _⟩ := h; rfl
  | _ => (simp only [R1] at h; exact R0.one h)

/-- the cells of a value. -/
def V.cells : V → List V
  | .agg cs => cs
  | v => [v]

/-- values of one variable only. -/
theorem R2.of {β : Bt} {v x} (h : R β v x) (hu : v ≠ .und) (ht : ∀ vs, v ≠ .tup vs) : R2 β v x := by
  cases v with
  | und => exact (hu rfl).elim
  | tup vs => exact (ht vs rfl).elim
  | _ => (simp only [R] at h; exact h)
theorem R2.up {β : Bt} {v x} (h : R2 β v x) : R β v x := by
  cases v with
  | und => trivial
  | tup vs => simp [R2, R1, R0] at h
  | _ => (simp only [R]; exact h)
theorem R1.up {β : Bt} {v x} (h : R1 β v x) : R2 β v x := by
  cases v with
  | agg cs => simp [R1, R0] at h
  | _ => (simp only [R2]; exact h)
theorem R0.up {β : Bt} {v x} (h : R0 β v x) : R1 β v x := by
  cases v with
  | fn => simp [R0] at h
  | _ => (simp only [R1]; exact h)

theorem R2.cells {β : Bt} {v x} (h : R2 β v x) : F2 (R1 β) v.cells x.cells.toList := by
  have hone : ∀ y : Value, y.oneCell' = true → y.cells = #[y] := by intro y hy; cases y <;> first | rfl | (simp [Value.oneCell'] at hy)
  cases v with
  | agg cs => obtain ⟨xs, rfl, h1⟩ := h; exact h1
  | _ =>
    simp only [R2] at h
    rw [hone x (R1.one h)]
    exact ⟨h, trivial⟩

theorem F2.one {β : Bt} : ∀ {as xs}, F2 (R1 β) as xs → ∀ u ∈ xs, u.oneCell' = true
  | [], [], _, _, h => by simp at h
  | _ :: _, x :: xs, h, u, hu => by
    rcases List.mem_cons.1 hu with rfl | hu
    · exact R1.one h.1
    · exact F2.one h.2 u hu

/-- a row of cells: whichever, or numbers of one kind. -/
inductive Row where
  | any (l : List V)
  | ints (k : IntKind) (l : List Int)
def Row.vs : Row → List V
  | .any l => l
  | .ints k l => l.map fun i => .sc (.int k i)
instance : Coe (List V) Row := ⟨.any⟩
/-- an object: its cells; whether it is written; the type of an element. -/
structure Ob where
  row : Row
  rw : Bool
  e : TypeId
def Ob.cells (o : Ob) : List V := o.row.vs
@[simp] theorem Ob.cells_any (l : List V) (b : Bool) (e : TypeId) : (Ob.mk (.any l) b e).cells = l := rfl

abbrev Sto := Nat → Option Ob

def ObOk (β : Bt) (w : World) (p : Bl) (o : Ob) : Prop :=
  p.b < w.heap.size ∧
  match o.rw with
  | true => p.d = 0 ∧ ∃ cur, w.heap[p.b]? = some (.cells cur o.e (0, 0)) ∧ cur.size = p.s ∧ o.cells.length ≤ p.s ∧ F2 (R1 β) o.cells (cur.toList.take o.cells.length)
  | false => ∀ i v, o.cells[i]? = some v → ∃ x, w.cell? ⟨p.b, p.d + i, none⟩ = some x ∧ R1 β v x

structure Sim (n : Nat) (β : Bt) (σ : Sto) (w : World) : Prop where
  ob : ∀ id o, σ id = some o → ∃ p, β id = some p ∧ ObOk β w p o
  sep : ∀ id o id' o' p p', σ id = some o → o.rw = true → σ id' = some o' → id ≠ id' → β id = some p → β id' = some p' → p.b ≠ p'.b
  fresh : ∀ id, n ≤ id → β id = none

theorem Sim.none {n β σ w} (h : Sim n β σ w) {id : Nat} (hi : n ≤ id) : σ id = .none := by
  cases e : σ id with
  | none => rfl
  | some o => obtain ⟨p, hp, _⟩ := h.ob id o e; rw [h.fresh id hi] at hp; cases hp

/-- every cell reads. -/
theorem ObOk.cell {β : Bt} {w : World} {p : Bl} {o : Ob} (h : ObOk β w p o) {i : Nat} {v : V} (hv : o.cells[i]? = some v) : ∃ x, w.cell? ⟨p.b, p.d + i, none⟩ = some x ∧ R1 β v x := by
  obtain ⟨hlt, h⟩ := h
  cases hr : o.rw with
  | false => rw [hr] at h; exact h i v hv
  | true =>
    rw [hr] at h
    obtain ⟨hd, cur, hg, hs, hle, hf⟩ := h
    obtain ⟨x, hx, hR⟩ := hf.get i v hv
    have hi : i < o.cells.length := (List.getElem?_eq_some_iff.1 hv).1
    rw [List.getElem?_take, if_pos hi] at hx
    refine ⟨x, ?_, hR⟩
    rw [hd, Nat.zero_add, cell_of_row w p.b i cur o.e (0, 0) hg]
    simpa using hx

/-- the blocks that are ours to write. -/
def Wr (β : Bt) (σ : Sto) (b : Nat) : Prop := ∃ id o p, σ id = some o ∧ o.rw = true ∧ β id = some p ∧ p.b = b

/-- What a step does to a world: nothing but to its own blocks. -/
structure Step (β : Bt) (σ : Sto) (w : World) (β' : Bt) (σ' : Sto) (w' : World) : Prop where
  le : β.le β'
  os : w'.os = w.os
  tape : w'.tape = w.tape
  output : w'.output = w.output
  size : w.heap.size ≤ w'.heap.size
  fr : ∀ b, b < w.heap.size → ¬ Wr β σ b → w'.heap[b]? = w.heap[b]?
  own : ∀ id o p, σ' id = some o → β' id = some p → (∃ id0 o0 p0, σ id0 = some o0 ∧ β id0 = some p0 ∧ p0.b = p.b ∧ (o.rw = true → o0.rw = true)) ∨ w.heap.size ≤ p.b

theorem Step.refl {n β σ w} (_h : Sim n β σ w) : Step β σ w β σ w :=
  ⟨Bt.le.refl β, rfl, rfl, rfl, Nat.le_refl _, fun _ _ _ => rfl, fun id o p h1 h2 => .inl ⟨id, o, p, h1, h2, rfl, fun h => h⟩⟩

theorem Step.trans {β σ w β1 σ1 w1 β2 σ2 w2} (h : Step β σ w β1 σ1 w1) (k : Step β1 σ1 w1 β2 σ2 w2) : Step β σ w β2 σ2 w2 where
  le := h.le.trans k.le
  os := k.os.trans h.os
  tape := k.tape.trans h.tape
  output := k.output.trans h.output
  size := Nat.le_trans h.size k.size
  fr := fun b hb hw => by
    rw [k.fr b (Nat.lt_of_lt_of_le hb h.size), h.fr b hb hw]
    rintro ⟨id, o, p, h1, h2, h3, rfl⟩
    rcases h.own id o p h1 h3 with ⟨id0, o0, p0, e1, e2, e3, e4⟩ | hge
    · exact hw ⟨id0, o0, p0, e1, e4 h2, e2, e3⟩
    · omega
  own := fun id o p h1 h2 => by
    rcases k.own id o p h1 h2 with ⟨id0, o0, p0, e1, e2, e3, e4⟩ | hge
    · rcases h.own id0 o0 p0 e1 e2 with ⟨id1, o1, p1, f1, f2, f3, f4⟩ | hge
      · exact .inl ⟨id1, o1, p1, f1, f2, f3.trans e3, fun hr => f4 (e4 hr)⟩
      · exact .inr (e3 ▸ hge)
    · exact .inr (Nat.le_trans h.size hge)

/-- fewer objects. -/
def Sto.le (σ τ : Sto) : Prop := ∀ id o, σ id = some o → τ id = some o
theorem Sim.drop {n β σ τ w} (h : Sim n β τ w) (hs : σ.le τ) : Sim n β σ w :=
  ⟨fun id o e => h.ob id o (hs id o e), fun id o id' o' p p' e hr e' => h.sep id o id' o' p p' (hs _ _ e) hr (hs _ _ e'), h.fresh⟩
theorem Step.dropEnd {β σ w β' σ' τ' w'} (h : Step β σ w β' τ' w') (hs : σ'.le τ') : Step β σ w β' σ' w' :=
  ⟨h.le, h.os, h.tape, h.output, h.size, h.fr, fun id o p e => h.own id o p (hs _ _ e)⟩

theorem ObOk.keep {β β' : Bt} {w w' : World} {p : Bl} {o : Ob} (h : ObOk β w p o) (hb : β.le β') (hsz : w.heap.size ≤ w'.heap.size) (hk : w'.heap[p.b]? = w.heap[p.b]?) : ObOk β' w' p o := by
  obtain ⟨hlt, h⟩ := h
  refine ⟨Nat.lt_of_lt_of_le hlt hsz, ?_⟩
  cases hr : o.rw with
  | false =>
    rw [hr] at h
    intro i v hv
    obtain ⟨x, hx, hR⟩ := h i v hv
    exact ⟨x, (World.cell?_of_block (a := ⟨p.b, p.d + i, none⟩) hk).trans hx, R1.mono hb hR⟩
  | true =>
    rw [hr] at h
    obtain ⟨hd, cur, hg, hs, hle, hf⟩ := h
    exact ⟨hd, cur, hk.trans hg, hs, hle, hf.mono fun _ _ => R1.mono hb⟩

/-- **The frame.** What a step does within few objects it does among more: those others stay. 'n': the first name that is not in use. -/
def Sto.over (n : Nat) (τ σ σ' : Sto) : Sto := fun id => if n ≤ id then σ' id else if (σ id).isSome then σ' id else τ id

theorem frame {n n' β σ τ w β' σ' w'} (hS : Sim n β τ w) (hs : σ.le τ) (h : Step β σ w β' σ' w') (h' : Sim n' β' σ' w') :
    Sim n' β' (Sto.over n τ σ σ') w' ∧ Step β τ w β' (Sto.over n τ σ σ') w' := by
  have hcase : ∀ id o, Sto.over n τ σ σ' id = some o → σ' id = some o ∨ (id < n ∧ σ id = none ∧ τ id = some o) := by
    intro id o e
    unfold Sto.over at e
    split at e
    · exact .inl e
    · split at e
      · exact .inl e
      · rename_i h1 h2; exact .inr ⟨by omega, by simpa using h2, e⟩
  have hWr : ∀ b, Wr β σ b → Wr β τ b := fun b ⟨id, o, p, e, r⟩ => ⟨id, o, p, hs _ _ e, r⟩
  -- an other object's block is not written
  have hoth : ∀ id o p, σ id = none → τ id = some o → β id = some p → ¬ Wr β σ p.b := by
    rintro id o p e1 e2 e3 ⟨id0, o0, p0, f1, f2, f3, f4⟩
    refine hS.sep id0 o0 id o p0 p (hs _ _ f1) f2 e2 ?_ f3 e3 f4
    rintro rfl; rw [e1] at f1; cases f1
  refine ⟨⟨?_, ?_, h'.fresh⟩, ⟨h.le, h.os, h.tape, h.output, h.size, fun b hb hw => h.fr b hb (fun hc => hw (hWr b hc)), ?_⟩⟩
  · intro id o e
    rcases hcase id o e with e | ⟨hlt, e0, e⟩
    · exact h'.ob id o e
    · obtain ⟨p, hp, hok⟩ := hS.ob id o e
      exact ⟨p, h.le _ _ hp, hok.keep h.le h.size (h.fr p.b hok.1 (hoth id o p e0 e hp))⟩
  · intro id o id' o' p p' e hr e' hne hp hp'
    rcases hcase id o e with e | ⟨hlt, e0, e⟩ <;> rcases hcase id' o' e' with e' | ⟨hlt', e0', e'⟩
    · exact h'.sep id o id' o' p p' e hr e' hne hp hp'
    · obtain ⟨q', hq', hok'⟩ := hS.ob id' o' e'
      obtain rfl : p' = q' := Option.some.inj (hp'.symm.trans (h.le _ _ hq'))
      rcases h.own id o p e hp with ⟨id0, o0, p0, f1, f2, f3, f4⟩ | hge
      · intro hc
        exact hoth id' o' p' e0' e' hq' ⟨id0, o0, p0, f1, f4 hr, f2, f3.trans hc⟩
      · have := hok'.1; omega
    · obtain ⟨q, hq, hok⟩ := hS.ob id o e
      obtain rfl : p = q := Option.some.inj (hp.symm.trans (h.le _ _ hq))
      rcases h.own id' o' p' e' hp' with ⟨id0, o0, p0, f1, f2, f3, f4⟩ | hge
      · rw [← f3]
        refine hS.sep id o id0 o0 p p0 e hr (hs _ _ f1) ?_ hq f2
        rintro rfl; rw [e0] at f1; cases f1
      · have := hok.1; omega
    · obtain ⟨q, hq, hok⟩ := hS.ob id o e
      obtain rfl : p = q := Option.some.inj (hp.symm.trans (h.le _ _ hq))
      obtain ⟨q', hq', hok'⟩ := hS.ob id' o' e'
      obtain rfl : p' = q' := Option.some.inj (hp'.symm.trans (h.le _ _ hq'))
      exact hS.sep id o id' o' p p' e hr e' hne hq hq'
  · intro id o p e hp
    rcases hcase id o e with e | ⟨hlt, e0, e⟩
    · rcases h.own id o p e hp with ⟨id0, o0, p0, f1, f2, f3, f4⟩ | hge
      · exact .inl ⟨id0, o0, p0, hs _ _ f1, f2, f3, f4⟩
      · exact .inr hge
    · obtain ⟨q, hq, hok⟩ := hS.ob id o e
      obtain rfl : p = q := Option.some.inj (hp.symm.trans (h.le _ _ hq))
      exact .inl ⟨id, o, p, e, hq, rfl, fun h => h⟩

end Go.Proofs.Ytnklnboglijcbaa.D
