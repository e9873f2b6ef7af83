/- Values and stores without addresses, and what they say of a world. Plain Lean over the kit's model; no program. -/
import Derived.Test.YtnklnboglijcbaaE1
namespace Go.Proofs.Ytnklnboglijcbaa.E
open Go Go.RowKit
set_option linter.unusedVariables false

mutual
/-- A value: letters for numbers; its own memory by names of objects; memory that nobody writes any more by what stands there. -/
inductive V where
  | und
  | sc (x : Value)
  | int (k : IntKind) (e : E)
  | bool (b : B)
  | str (l : L)
  | ptr (id : Nat) (i : E) (z c : Nat)
  | sl (id : Nat) (c : Nat) (off len : E) (z : Nat) (top : Bool)
  | fs (z : Nat) (r : Row)
  | fe (r : Row) (i : E) (z c : Nat)
  | key (c : Nat) (s : E)
  | agg (cs : List V)
  | tup (vs : List V)
  | fn (f : Fn) (first captured : List V)
/-- a row of cells: whichever; numbers of one kind; so many records of a pattern. -/
inductive Row where
  | any (l : List V)
  | ints (k : IntKind) (l : L)
  | recs (z : Nat) (n : E) (t : List V)
end
instance : Inhabited V := ⟨.und⟩
instance : Inhabited Row := ⟨.any []⟩

/-- what letters stand for; blocks that stay, blocks that keep a rule. -/
structure Gm where
  env : Env
  fz : Nat → Option (Array Value)
  kv : Nat → Option (Nat × Int)
def Gm.at (γ : Gm) (i : Int) : Gm := { γ with env := γ.env.at i }
structure Bl where
  b : Nat
  s : Nat
/-- and where objects lie; 'some none': nowhere, it has no cells. -/
structure Bt where
  g : Gm
  nm : Nat → Option (Option Bl)

def strOf (l : List Int) : ByteArray := ⟨(l.map fun i => UInt8.ofNat i.toNat).toArray⟩

mutual
/-- one cell, no names. -/
def F1 (v : V) (γ : Gm) (x : Value) : Prop := match v with
  | .sc y => x = y ∧ y.oneCell' = true
  | .int k e => x = .int k (e.den γ.env)
  | .bool b => x = .bool (b.den γ.env)
  | .str l => x = .string (strOf (l.den γ.env))
  | .fs z r => ∃ xs n c a, x = .slice a n c ∧ n * z = xs.length ∧ n ≤ c ∧ Fr r γ xs ∧ ((a = none ∧ n = 0 ∧ c = 0) ∨ ∃ b d, a = some ⟨b, d, none⟩ ∧ (n = 0 ∨ ∃ cs, γ.fz b = some cs ∧ (cs.toList.drop d).take xs.length = xs))
  | .fe r i z c => ∃ xs b d full, x = .pointer (some ⟨b, d + (i.den γ.env).toNat * z + c, none⟩) ∧ Fr r γ xs ∧ γ.fz b = some full ∧ (full.toList.drop d).take xs.length = xs
  | .key c s => ∃ b, x = .pointer (some ⟨b, 0, none⟩) ∧ γ.kv b = some (c, s.den γ.env)
  | _ => False
termination_by structural v
def Fs (vs : List V) (γ : Gm) (xs : List Value) : Prop := match vs, xs with
  | [], [] => True
  | v :: vs, x :: xs => F1 v γ x ∧ Fs vs γ xs
  | _, _ => False
termination_by structural vs
def Fr (r : Row) (γ : Gm) (xs : List Value) : Prop := match r with
  | .any cs => Fs cs γ xs
  | .ints k l => xs = (l.den γ.env).map (.int k)
  | .recs z n t => 0 ≤ n.den γ.env ∧ xs.length = (n.den γ.env).toNat * z ∧ ∀ i : Nat, i < (n.den γ.env).toNat → Fs t (γ.at i) ((xs.drop (i * z)).take z)
termination_by structural r
end

theorem Fs.length : ∀ {vs : List V} {γ : Gm} {xs : List Value}, Fs vs γ xs → vs.length = xs.length
  | [], _, [], _ => rfl
  | _ :: _, _, _ :: _, h => by unfold Fs at h; simp [Fs.length h.2]
  | [], _, _ :: _, h => by unfold Fs at h; exact h.elim
  | _ :: _, _, [], h => by unfold Fs at h; exact h.elim
def F2 (r : V → Value → Prop) : List V → List Value → Prop
  | [], [] => True
  | a :: as, x :: xs => r a x ∧ F2 r as xs
  | _, _ => False

theorem F2.nil {r : V → Value → Prop} : F2 r [] [] := trivial
theorem F2.cons {r : V → Value → Prop} {a x as xs} (h : r a x) (t : F2 r as xs) : F2 r (a :: as) (x :: xs) := ⟨h, t⟩
theorem F2.length {r : V → Value → Prop} : ∀ {as xs}, F2 r as xs → as.length = xs.length
  | [], [], _ => rfl
  | _ :: _, _ :: _, h => by simp [F2.length h.2]
theorem F2.mono {r r' : V → Value → Prop} (hr : ∀ a x, r a x → r' a x) : ∀ {as xs}, F2 r as xs → F2 r' as xs
  | [], [], _ => trivial
  | _ :: _, _ :: _, h => ⟨hr _ _ h.1, F2.mono hr h.2⟩
theorem F2.app {r : V → Value → Prop} : ∀ {as xs bs ys}, F2 r as xs → F2 r bs ys → F2 r (as ++ bs) (xs ++ ys)
  | [], [], _, _, _, h => h
  | _ :: _, _ :: _, _, _, h, h' => ⟨h.1, F2.app h.2 h'⟩
theorem F2.take {r : V → Value → Prop} : ∀ (n : Nat) {as xs}, F2 r as xs → F2 r (as.take n) (xs.take n)
  | 0, _, _, _ => by simp [F2]
  | _ + 1, [], [], _ => trivial
  | n + 1, _ :: _, _ :: _, h => ⟨h.1, F2.take n h.2⟩
theorem F2.drop {r : V → Value → Prop} : ∀ (n : Nat) {as xs}, F2 r as xs → F2 r (as.drop n) (xs.drop n)
  | 0, _, _, h => by simpa using h
  | _ + 1, [], [], _ => trivial
  | n + 1, _ :: _, _ :: _, h => by simpa using F2.drop n h.2
theorem F2.get {r : V → Value → Prop} : ∀ {as xs}, F2 r as xs → ∀ (i : Nat) (v : V), as[i]? = some v → ∃ x, xs[i]? = some x ∧ r v x
  | [], [], _, i, v, h => by simp at h
  | a :: as, x :: xs, h, 0, v, hv => ⟨x, by simp, by simp at hv; exact hv ▸ h.1⟩
  | a :: as, x :: xs, h, i + 1, v, hv => by simpa using F2.get h.2 i v (by simpa using hv)
theorem F2.getx {r : V → Value → Prop} : ∀ {as xs}, F2 r as xs → ∀ (i : Nat) (x : Value), xs[i]? = some x → ∃ v, as[i]? = some v ∧ r v x
  | [], [], _, i, v, h => by simp at h
  | a :: as, x :: xs, h, 0, v, hv => ⟨a, by simp, by simp at hv; exact hv ▸ h.1⟩
  | a :: as, x :: xs, h, i + 1, v, hv => by simpa using F2.getx h.2 i v (by simpa using hv)
theorem F2.set {r : V → Value → Prop} : ∀ {as xs} (i : Nat) {v x}, F2 r as xs → r v x → F2 r (as.set i v) (xs.set i x)
  | [], [], _, _, _, _, _ => by simp [F2]
  | _ :: _, _ :: _, 0, _, _, h, hv => ⟨hv, h.2⟩
  | _ :: _, _ :: _, i + 1, _, _, h, hv => ⟨h.1, F2.set i h.2 hv⟩
theorem F2.of_get {r : V → Value → Prop} : ∀ {as : List V} {xs : List Value}, as.length = xs.length → (∀ (i : Nat) (v : V) (x : Value), as[i]? = some v → xs[i]? = some x → r v x) → F2 r as xs
  | [], [], _, _ => trivial
  | a :: as, x :: xs, hl, h => ⟨h 0 a x (by simp) (by simp), F2.of_get (by simpa using hl) fun i v y hv hy => h (i + 1) v y (by simpa using hv) (by simpa using hy)⟩


theorem Fs_iff : ∀ {vs : List V} {γ : Gm} {xs : List Value}, Fs vs γ xs ↔ F2 (fun v x => F1 v γ x) vs xs
  | [], _, [] => by unfold Fs; simp [F2]
  | _ :: _, _, _ :: _ => by unfold Fs; simp only [F2]; rw [Fs_iff]
  | [], _, _ :: _ => by unfold Fs; simp [F2]
  | _ :: _, _, [] => by unfold Fs; simp [F2]
theorem F2.mono_mem {r r' : V → Value → Prop} : ∀ {as xs}, F2 r as xs → (∀ v x, v ∈ as → r v x → r' v x) → F2 r' as xs
  | [], [], _, _ => trivial
  | _ :: _, _ :: _, h, hr => ⟨hr _ _ (by simp) h.1, F2.mono_mem h.2 fun v x hv => hr v x (by simp [hv])⟩
theorem F2.map {r : V → Value → Prop} {α : Type} (g : α → V) (k : α → Value) : ∀ (l : List α), (∀ x ∈ l, r (g x) (k x)) → F2 r (l.map g) (l.map k)
  | [], _ => trivial
  | x :: l, h => ⟨h x (by simp), F2.map g k l fun y hy => h y (by simp [hy])⟩

/-- more blocks that stay, more that keep a rule. -/
structure Gm.le (γ γ' : Gm) : Prop where
  env : γ'.env = γ.env
  fz : ∀ b cs, γ.fz b = some cs → γ'.fz b = some cs
  kv : ∀ b c, γ.kv b = some c → γ'.kv b = some c
theorem Gm.le.refl (γ : Gm) : γ.le γ := ⟨rfl, fun _ _ h => h, fun _ _ h => h⟩
theorem Gm.le.trans {a b c : Gm} (h : a.le b) (h' : b.le c) : a.le c := ⟨h'.env.trans h.env, fun x y e => h'.fz x y (h.fz x y e), fun x y e => h'.kv x y (h.kv x y e)⟩
theorem Gm.le.at {γ γ' : Gm} (h : γ.le γ') (i : Int) : (γ.at i).le (γ'.at i) := ⟨by simp [Gm.at, h.env], h.fz, h.kv⟩

mutual
theorem F1.mono : ∀ (v : V) {γ γ' : Gm} {x : Value}, γ.le γ' → F1 v γ x → F1 v γ' x := by
  intro v γ γ' x h hv
  cases v with
  | sc y => simpa only [F1] using hv
  | int k e => simp only [F1] at hv ⊢; rw [h.env]; exact hv
  | bool b => simp only [F1] at hv ⊢; rw [h.env]; exact hv
  | str l => simp only [F1] at hv ⊢; rw [h.env]; exact hv
  | fs z r =>
    simp only [F1] at hv ⊢
    obtain ⟨xs, n, c, a, h1, h2, h3, h4, h5⟩ := hv
    refine ⟨xs, n, c, a, h1, h2, h3, Fr.mono r h h4, ?_⟩
    rcases h5 with h5 | ⟨b, d, h5, h6⟩
    · exact .inl h5
    · refine .inr ⟨b, d, h5, ?_⟩
      rcases h6 with h6 | ⟨cs, h6, h7⟩
      · exact .inl h6
      · exact .inr ⟨cs, h.fz _ _ h6, h7⟩
  | fe r i z c =>
    simp only [F1] at hv ⊢
    obtain ⟨xs, b, d, full, h1, h2, h3, h4⟩ := hv
    exact ⟨xs, b, d, full, by rw [h.env]; exact h1, Fr.mono r h h2, h.fz _ _ h3, h4⟩
  | key c s =>
    simp only [F1] at hv ⊢
    obtain ⟨b, h1, h2⟩ := hv
    exact ⟨b, h1, by rw [h.env]; exact h.kv _ _ h2⟩
  | _ => simp only [F1] at hv
theorem Fs.mono : ∀ (vs : List V) {γ γ' : Gm} {xs : List Value}, γ.le γ' → Fs vs γ xs → Fs vs γ' xs := by
  intro vs γ γ' xs h hv
  cases vs with
  | nil => cases xs <;> (unfold Fs at hv ⊢; exact hv)
  | cons v vs => cases xs with
    | nil => unfold Fs at hv; exact hv.elim
    | cons x xs => unfold Fs at hv ⊢; exact ⟨F1.mono v h hv.1, Fs.mono vs h hv.2⟩
theorem Fr.mono : ∀ (r : Row) {γ γ' : Gm} {xs : List Value}, γ.le γ' → Fr r γ xs → Fr r γ' xs := by
  intro r γ γ' xs h hv
  cases r with
  | any cs => simp only [Fr] at hv ⊢; exact Fs.mono cs h hv
  | ints k l => simp only [Fr] at hv ⊢; rw [h.env]; exact hv
  | recs z n t => simp only [Fr] at hv ⊢; rw [h.env]; exact ⟨hv.1, hv.2.1, fun i hi => Fs.mono t (h.at i) (hv.2.2 i hi)⟩
end

theorem F1.one {v : V} {γ : Gm} {x : Value} (h : F1 v γ x) : x.oneCell' = true := by
  cases v with
  | sc y => simp only [F1] at h; obtain ⟨rfl, h⟩ := h; exact h
  | int k e => simp only [F1] at h; rw [h]; rfl
  | bool b => simp only [F1] at h; rw [h]; rfl
  | str l => simp only [F1] at h; rw [h]; rfl
  | fs z r => simp only [F1] at h; obtain ⟨xs, n, c, a, rfl, _⟩ := h; rfl
  | fe r i z c => simp only [F1] at h; obtain ⟨xs, b, d, full, rfl, _⟩ := h; rfl
  | key c s => simp only [F1] at h; obtain ⟨b, rfl, _⟩ := h; rfl
  | _ => simp only [F1] at h

/-! ### with names -/
def Bt.env (β : Bt) : Env := β.g.env
/-- values of one cell that are no functions. -/
def R0 (β : Bt) : V → Value → Prop
  | .ptr id i z c, x => ∃ p, β.nm id = some (some p) ∧ x = .pointer (some ⟨p.b, (i.den β.g.env).toNat * z + c, none⟩)
  | .sl id co off len z top, x => ∃ q, β.nm id = some q ∧ 0 ≤ len.den β.g.env ∧
      ((∃ p d c, q = some p ∧ x = .slice (some ⟨p.b, d, none⟩) (len.den β.g.env).toNat c ∧ (d = co + (off.den β.g.env).toNat * z ∨ ((len.den β.g.env).toNat = 0 ∧ top = false)) ∧ (len.den β.g.env).toNat ≤ c ∧ (top = true → co = 0 ∧ (off.den β.g.env).toNat = 0 ∧ c * z = p.s ∧ c ≤ maxLen)) ∨
       (q = none ∧ co = 0 ∧ (off.den β.g.env).toNat = 0 ∧ (len.den β.g.env).toNat = 0 ∧ ∃ a, x = .slice a 0 0 ∧ (∀ a', a = some a' → a'.spot = none)))
  | v, x => F1 v β.g x
/-- values of one cell. -/
def R1 (β : Bt) : V → Value → Prop
  | .fn f a b, x => ∃ xs ys, x = .func f xs ys ∧ F2 (R0 β) a xs.toList ∧ F2 (R0 β) b ys.toList
  | v, x => R0 β v x
/-- values of one variable. -/
def R2 (β : Bt) : V → Value → Prop
  | .agg cs, x => ∃ xs, x = .agg xs ∧ F2 (R1 β) cs xs.toList
  | v, x => R1 β v x
/-- whatever stands in a slot. -/
def R (β : Bt) : V → Value → Prop
  | .und, _ => True
  | .tup vs, x => ∃ xs, x = .tuple xs ∧ F2 (R2 β) vs xs.toList
  | v, x => R2 β v x

/-- names below 'e' lie where they lay; what stays stays. -/
structure Bt.le (e : Nat) (β β' : Bt) : Prop where
  g : β.g.le β'.g
  nm : ∀ id q, id < e → β.nm id = some q → β'.nm id = some q
theorem Bt.le.refl (e : Nat) (β : Bt) : β.le e β := ⟨Gm.le.refl _, fun _ _ _ h => h⟩
theorem Bt.le.trans {e : Nat} {a b c : Bt} (h : a.le e b) (h' : b.le e c) : a.le e c := ⟨h.g.trans h'.g, fun id q hl e => h'.nm id q hl (h.nm id q hl e)⟩
theorem Bt.le.weaken {e e' : Nat} {a b : Bt} (h : a.le e b) (he : e' ≤ e) : a.le e' b := ⟨h.g, fun id q hl => h.nm id q (by omega)⟩

/-! ### the names of a value -/
def V.in0 (p : Nat → Bool) : V → Bool
  | .ptr id _ _ _ => p id
  | .sl id _ _ _ _ _ => p id
  | _ => true
def V.in1 (p : Nat → Bool) : V → Bool
  | .fn _ a b => a.all (V.in0 p) && b.all (V.in0 p)
  | v => v.in0 p
def V.in2 (p : Nat → Bool) : V → Bool
  | .agg cs => cs.all (V.in1 p)
  | v => v.in1 p
def V.inn (p : Nat → Bool) : V → Bool
  | .tup vs => vs.all (V.in2 p)
  | v => v.in2 p

section names
variable {β β' : Bt} {p : Nat → Bool} (hg : β.g.le β'.g) (hp : ∀ id, p id = true → ∀ b, β.nm id = some b → β'.nm id = some b)
include hg hp
theorem R0.names {v x} (h : R0 β v x) (hv : v.in0 p = true) : R0 β' v x := by
  cases v with
  | ptr id i z c => obtain ⟨q, hq, e⟩ := h; exact ⟨q, hp _ hv _ hq, by rw [hg.env]; exact e⟩
  | sl id co off len z top => obtain ⟨q, hq, r⟩ := h; exact ⟨q, hp _ hv _ hq, by rw [hg.env]; exact r⟩
  | _ => (simp only [R0] at h ⊢; exact F1.mono _ hg h)
theorem F2.names0 {vs : List V} {xs} (h : F2 (R0 β) vs xs) (hv : vs.all (V.in0 p) = true) : F2 (R0 β') vs xs := by
  rw [List.all_eq_true] at hv
  exact h.mono_mem fun v x hm hr => R0.names hg hp hr (hv v hm)
theorem R1.names {v x} (h : R1 β v x) (hv : v.in1 p = true) : R1 β' v x := by
  cases v with
  | fn f a b =>
    obtain ⟨xs, ys, e, h1, h2⟩ := h
    have hv' : a.all (V.in0 p) = true ∧ b.all (V.in0 p) = true := by simpa [V.in1] using hv
    exact ⟨xs, ys, e, F2.names0 hg hp h1 hv'.1, F2.names0 hg hp h2 hv'.2⟩
  | _ => (simp only [R1] at h ⊢; exact R0.names hg hp h hv)
theorem F2.names1 {vs : List V} {xs} (h : F2 (R1 β) vs xs) (hv : vs.all (V.in1 p) = true) : F2 (R1 β') vs xs := by
  rw [List.all_eq_true] at hv
  exact h.mono_mem fun v x hm hr => R1.names hg hp hr (hv v hm)
theorem R2.names {v x} (h : R2 β v x) (hv : v.in2 p = true) : R2 β' v x := by
  cases v with
  | agg cs => obtain ⟨xs, e, h1⟩ := h; exact ⟨xs, e, F2.names1 hg hp h1 hv⟩
  | _ => (simp only [R2] at h ⊢; exact R1.names hg hp h hv)
theorem R.names {v x} (h : R β v x) (hv : v.inn p = true) : R β' v x := by
  cases v with
  | und => trivial
  | tup vs =>
    obtain ⟨xs, e, h1⟩ := h
    have hv' : vs.all (V.in2 p) = true := hv
    rw [List.all_eq_true] at hv'
    exact ⟨xs, e, h1.mono_mem fun v x hm hr => R2.names hg hp hr (hv' v hm)⟩
  | _ => (simp only [R] at h ⊢; exact R2.names hg hp h hv)
end names

/-- all names. -/
theorem V.in0_true (v : V) : v.in0 (fun _ => true) = true := by cases v <;> rfl
theorem V.in1_true (v : V) : v.in1 (fun _ => true) = true := by
  cases v with
  | fn f a b => simp only [V.in1, Bool.and_eq_true, List.all_eq_true]; exact ⟨fun v _ => V.in0_true v, fun v _ => V.in0_true v⟩
  | _ => rfl
theorem V.in2_true (v : V) : v.in2 (fun _ => true) = true := by
  cases v with
  | agg cs => simp only [V.in2, List.all_eq_true]; exact fun v _ => V.in1_true v
  | _ => (simp only [V.in2]; exact V.in1_true _)
theorem V.inn_true (v : V) : v.inn (fun _ => true) = true := by
  cases v with
  | tup cs => simp only [V.inn, List.all_eq_true]; exact fun v _ => V.in2_true v
  | _ => (simp only [V.inn]; exact V.in2_true _)

/-- every name keeps its place. -/
structure Bt.all (β β' : Bt) : Prop where
  g : β.g.le β'.g
  nm : ∀ id q, β.nm id = some q → β'.nm id = some q
theorem Bt.all.refl (β : Bt) : β.all β := ⟨Gm.le.refl _, fun _ _ h => h⟩
theorem R0.mono {β β' : Bt} (hb : β.all β') {v x} (h : R0 β v x) : R0 β' v x := R0.names hb.g (p := fun _ => true) (fun id _ b => hb.nm id b) h (V.in0_true v)
theorem R1.mono {β β' : Bt} (hb : β.all β') {v x} (h : R1 β v x) : R1 β' v x := R1.names hb.g (p := fun _ => true) (fun id _ b => hb.nm id b) h (V.in1_true v)
theorem R2.mono {β β' : Bt} (hb : β.all β') {v x} (h : R2 β v x) : R2 β' v x := R2.names hb.g (p := fun _ => true) (fun id _ b => hb.nm id b) h (V.in2_true v)
theorem R.mono {β β' : Bt} (hb : β.all β') {v x} (h : R β v x) : R β' v x := R.names hb.g (p := fun _ => true) (fun id _ b => hb.nm id b) h (V.inn_true v)

theorem R0.one {β : Bt} {v x} (h : R0 β v x) : x.oneCell' = true := by
  cases v with
  | ptr id i z c => obtain ⟨p, _, rfl⟩ := h; rfl
  | sl id co off len z top => obtain ⟨q, _, _, ⟨p, d, c, _, rfl, _⟩ | ⟨_, _, _, _, a, rfl, _⟩⟩ := h <;> rfl
  | _ => (simp only [R0] at h; exact F1.one h)
theorem R1.one {β : Bt} {v x} (h : R1 β v x) : x.oneCell' = true := by
  cases v with
  | fn f a b => obtain ⟨xs, ys, rfl, _⟩ := h; rfl
  | _ => (simp only [R1] at h; exact R0.one h)

/-- the cells of a value. -/
def V.cells : V → List V
  | .agg cs => cs
  | v => [v]
theorem R2.of {β : Bt} {v x} (h : R β v x) (hu : v ≠ .und) (ht : ∀ vs, v ≠ .tup vs) : R2 β v x := by
  cases v with
  | und => exact (hu rfl).elim
  | tup vs => exact (ht vs rfl).elim
  | _ => (simp only [R] at h; exact h)
theorem R2.up {β : Bt} {v x} (h : R2 β v x) : R β v x := by
  cases v with
  | und => trivial
  | tup vs => simp [R2, R1, R0, F1] at h
  | _ => (simp only [R]; exact h)
theorem R1.up {β : Bt} {v x} (h : R1 β v x) : R2 β v x := by
  cases v with
  | agg cs => simp [R1, R0, F1] at h
  | _ => (simp only [R2]; exact h)
theorem R0.up {β : Bt} {v x} (h : R0 β v x) : R1 β v x := by
  cases v with
  | fn => simp [R0, F1] at h
  | _ => (simp only [R1]; exact h)
theorem F1.up {β : Bt} {v x} (h : F1 v β.g x) : R0 β v x := by
  cases v with
  | ptr => simp [F1] at h
  | sl => simp [F1] at h
  | _ => (simp only [R0]; exact h)
theorem R0.toR {β : Bt} {v x} (h : R0 β v x) : R β v x := h.up.up.up

theorem R2.cells {β : Bt} {v x} (h : R2 β v x) : F2 (R1 β) v.cells x.cells.toList := by
  have hone : ∀ y : Value, y.oneCell' = true → y.cells = #[y] := by intro y hy; cases y <;> first | rfl | (simp [Value.oneCell'] at hy)
  cases v with
  | agg cs => obtain ⟨xs, rfl, h1⟩ := h; exact h1
  | _ =>
    simp only [R2] at h
    rw [hone x (R1.one h)]
    exact ⟨h, trivial⟩
theorem F2.one {β : Bt} : ∀ {as xs}, F2 (R1 β) as xs → ∀ u ∈ xs, u.oneCell' = true
  | [], [], _, _, h => by simp at h
  | _ :: _, x :: xs, h, u, hu => by
    rcases List.mem_cons.1 hu with rfl | hu
    · exact R1.one h.1
    · exact F2.one h.2 u hu
end Go.Proofs.Ytnklnboglijcbaa.E
