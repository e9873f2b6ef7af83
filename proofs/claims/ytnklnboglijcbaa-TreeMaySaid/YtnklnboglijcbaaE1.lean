/- Letters: expressions of numbers, rows of numbers, rows of rows, truths; what they mean. Plain Lean over the kit's model; no program. -/
import Derived.Test.YtnklnboglijcbaaE0
namespace Go.Proofs.Ytnklnboglijcbaa.E
open Go Go.RowKit
set_option linter.unusedVariables false

mutual
inductive E where
  | lit (n : Int)
  | var (i : Nat)
  | ix
  | bin (o : BinOp) (k : IntKind) (a b : E)
  | un (o : UnOp) (k : IntKind) (a : E)
  | conv (k : IntKind) (a : E)
  | get (l : L) (i : E)
  | len (l : L)
  | cnt (l : LL)
  | ofB (b : B)
  | ite (b : B) (x y : E)
  deriving Inhabited
inductive L where
  | nil
  | cons (e : E) (l : L)
  | var (i : Nat)
  | at (l : LL) (i : E)
  | cat (a b : L)
  | cut (l : L) (lo hi : E)
  | sub (l : L) (off n : Nat)
  | set (l : L) (i x : E)
  | rep (n x : E)
  | byt (l : L)
  | app (f : Nat) (a : L) (as : LL)
  | ite (b : B) (x y : L)
  deriving Inhabited
inductive LL where
  | nil
  | cons (l : L) (ls : LL)
  | var (i : Nat)
  | cat (a b : LL)
  | app (f : Nat) (a : L) (as : LL)
  deriving Inhabited
inductive B where
  | lit (b : Bool)
  | var (i : Nat)
  | lt (a b : E)
  | eq (a b : E)
  | leq (a b : L)
  | seq (a b : L)
  | not (a : B)
  | and (a b : B)
  deriving Inhabited
end

/-- what letters stand for. -/
structure Env where
  e : Nat → Int
  l : Nat → List Int
  ll : Nat → List (List Int)
  b : Nat → Bool
  ix : Int

/-- less, equal: in a form that reckons well. -/
def ltb : Int → Int → Bool
  | .ofNat a, .ofNat b => Nat.blt a b
  | .ofNat _, .negSucc _ => false
  | .negSucc _, .ofNat _ => true
  | .negSucc a, .negSucc b => Nat.blt b a
def eqb : Int → Int → Bool
  | .ofNat a, .ofNat b => Nat.beq a b
  | .negSucc a, .negSucc b => Nat.beq a b
  | _, _ => false
theorem ltb_eq (a b : Int) : ltb a b = decide (a < b) := by
  cases a <;> cases b <;> simp only [ltb] <;> (rw [Bool.eq_iff_iff]; simp [Nat.blt]; try omega)
theorem eqb_eq (a b : Int) : eqb a b = (a == b) := by
  cases a <;> cases b <;> simp only [eqb] <;> (rw [Bool.eq_iff_iff]; simp; try omega)
def eqL (a b : List Int) : Bool := decide (a = b)
/-- as bytes. -/
def byte (i : Int) : Int := ((UInt8.ofNat i.toNat).toNat : Nat)
def eqS (a b : List Int) : Bool := decide (a.map byte = b.map byte)

/-- what an operation gives of two numbers. -/
def binI (o : BinOp) (k : IntKind) (a b : Int) : Int := match o with
  | .add => k.wrap (a + b)
  | .sub => k.wrap (a - b)
  | .mul => k.wrap (a * b)
  | .quo => k.wrap (a.tdiv b)
  | .rem => a.tmod b
  | .and => k.wrap (BitVec.ofInt k.bits a &&& BitVec.ofInt k.bits b).toNat
  | .or => k.wrap (BitVec.ofInt k.bits a ||| BitVec.ofInt k.bits b).toNat
  | .xor => k.wrap (BitVec.ofInt k.bits a ^^^ BitVec.ofInt k.bits b).toNat
  | .andNot => k.wrap (BitVec.ofInt k.bits a &&& ~~~BitVec.ofInt k.bits b).toNat
  | .shl => k.wrap (a * 2 ^ (min b.toNat k.bits))
  | .shr => a.fdiv (2 ^ (min b.toNat k.bits))
  | _ => 0
def unI (o : UnOp) (k : IntKind) (a : Int) : Int := match o with
  | .neg => k.wrap (0 - a)
  | .xor => k.wrap (BitVec.ofInt k.bits (if k.signed then -1 else k.max) ^^^ BitVec.ofInt k.bits a).toNat
  | _ => a
def b2i (b : Bool) : Int := bif b then 1 else 0
def subL (l : List Int) (off n : Nat) : List Int := (List.range n).map fun i => l.getD (off + i) 0

mutual
def E.den (ρ : Env) : E → Int
  | .lit n => n
  | .var i => ρ.e i
  | .ix => ρ.ix
  | .bin o k a b => binI o k (a.den ρ) (b.den ρ)
  | .un o k a => unI o k (a.den ρ)
  | .conv k a => k.wrap (a.den ρ)
  | .get l i => (l.den ρ).getD (i.den ρ).toNat 0
  | .len l => ((l.den ρ).length : Nat)
  | .cnt l => ((l.den ρ).length : Nat)
  | .ofB b => b2i (b.den ρ)
  | .ite b x y => bif b.den ρ then x.den ρ else y.den ρ
def L.den (ρ : Env) : L → List Int
  | .nil => []
  | .cons e l => e.den ρ :: l.den ρ
  | .var i => ρ.l i
  | .at l i => (l.den ρ).getD (i.den ρ).toNat []
  | .cat a b => a.den ρ ++ b.den ρ
  | .cut l lo hi => ((l.den ρ).take (hi.den ρ).toNat).drop (lo.den ρ).toNat
  | .sub l off n => subL (l.den ρ) off n
  | .set l i x => (l.den ρ).set (i.den ρ).toNat (x.den ρ)
  | .rep n x => List.replicate (n.den ρ).toNat (x.den ρ)
  | .byt l => (l.den ρ).map byte
  | .app f a as => J f (a.den ρ) (as.den ρ)
  | .ite b x y => bif b.den ρ then x.den ρ else y.den ρ
def LL.den (ρ : Env) : LL → List (List Int)
  | .nil => []
  | .cons l ls => l.den ρ :: ls.den ρ
  | .var i => ρ.ll i
  | .cat a b => a.den ρ ++ b.den ρ
  | .app f a as => JJ f (a.den ρ) (as.den ρ)
def B.den (ρ : Env) : B → Bool
  | .lit b => b
  | .var i => ρ.b i
  | .lt a b => ltb (a.den ρ) (b.den ρ)
  | .eq a b => eqb (a.den ρ) (b.den ρ)
  | .leq a b => eqL (a.den ρ) (b.den ρ)
  | .seq a b => eqS (a.den ρ) (b.den ρ)
  | .not a => !a.den ρ
  | .and a b => a.den ρ && b.den ρ
end

/-! ### alike in writing -/
def opN : BinOp → Nat
  | .add => 0 | .sub => 1 | .mul => 2 | .quo => 3 | .rem => 4 | .and => 5 | .or => 6 | .xor => 7 | .shl => 8 | .shr => 9 | .andNot => 10
  | .eql => 11 | .neq => 12 | .lss => 13 | .leq => 14 | .gtr => 15 | .geq => 16
theorem opN_inj {a b : BinOp} (h : Nat.beq (opN a) (opN b) = true) : a = b := by cases a <;> cases b <;> first | rfl | (exact absurd h (by decide))
def unN : UnOp → Nat
  | .neg => 0 | .xor => 1 | .not => 2 | .plus => 3
theorem unN_inj {a b : UnOp} (h : Nat.beq (unN a) (unN b) = true) : a = b := by cases a <;> cases b <;> first | rfl | (exact absurd h (by decide))
def kN : IntKind → Nat
  | .i8 => 0 | .i16 => 1 | .i32 => 2 | .i64 => 3 | .u8 => 4 | .u16 => 5 | .u32 => 6 | .u64 => 7
theorem kN_inj {a b : IntKind} (h : Nat.beq (kN a) (kN b) = true) : a = b := by cases a <;> cases b <;> first | rfl | (exact absurd h (by decide))
def iN : Int → Int → Bool := eqb
theorem iN_inj {a b : Int} (h : iN a b = true) : a = b := by unfold iN at h; rw [eqb_eq] at h; exact eq_of_beq h
def bN : Bool → Bool → Bool
  | true, b => b
  | false, b => !b
theorem bN_inj {a b : Bool} (h : bN a b = true) : a = b := by cases a <;> cases b <;> first | rfl | cases h

mutual
def E.same (a b : E) : Bool := match a, b with
  | .lit a, .lit b => iN a b
  | .var a, .var b => Nat.beq a b
  | .ix, .ix => true
  | .bin o k a b, .bin o' k' a' b' => Nat.beq (opN o) (opN o') && Nat.beq (kN k) (kN k') && a.same a' && b.same b'
  | .un o k a, .un o' k' a' => Nat.beq (unN o) (unN o') && Nat.beq (kN k) (kN k') && a.same a'
  | .conv k a, .conv k' a' => Nat.beq (kN k) (kN k') && a.same a'
  | .get l i, .get l' i' => l.same l' && i.same i'
  | .len l, .len l' => l.same l'
  | .cnt l, .cnt l' => l.same l'
  | .ofB b, .ofB b' => b.same b'
  | .ite b x y, .ite b' x' y' => b.same b' && x.same x' && y.same y'
  | _, _ => false
termination_by structural a
def L.same (a b : L) : Bool := match a, b with
  | .nil, .nil => true
  | .cons e l, .cons e' l' => e.same e' && l.same l'
  | .var a, .var b => Nat.beq a b
  | .at l i, .at l' i' => l.same l' && i.same i'
  | .cat a b, .cat a' b' => a.same a' && b.same b'
  | .cut a b c, .cut a' b' c' => a.same a' && b.same b' && c.same c'
  | .sub a b c, .sub a' b' c' => a.same a' && Nat.beq b b' && Nat.beq c c'
  | .set a b c, .set a' b' c' => a.same a' && b.same b' && c.same c'
  | .rep a b, .rep a' b' => a.same a' && b.same b'
  | .byt a, .byt a' => a.same a'
  | .app f a as, .app f' a' as' => Nat.beq f f' && a.same a' && as.same as'
  | .ite b x y, .ite b' x' y' => b.same b' && x.same x' && y.same y'
  | _, _ => false
termination_by structural a
def LL.same (a b : LL) : Bool := match a, b with
  | .nil, .nil => true
  | .cons e l, .cons e' l' => e.same e' && l.same l'
  | .var a, .var b => Nat.beq a b
  | .cat a b, .cat a' b' => a.same a' && b.same b'
  | .app f a as, .app f' a' as' => Nat.beq f f' && a.same a' && as.same as'
  | _, _ => false
termination_by structural a
def B.same (a b : B) : Bool := match a, b with
  | .lit a, .lit b => bN a b
  | .var a, .var b => Nat.beq a b
  | .lt a b, .lt a' b' => a.same a' && b.same b'
  | .eq a b, .eq a' b' => a.same a' && b.same b'
  | .leq a b, .leq a' b' => a.same a' && b.same b'
  | .seq a b, .seq a' b' => a.same a' && b.same b'
  | .not a, .not a' => a.same a'
  | .and a b, .and a' b' => a.same a' && b.same b'
  | _, _ => false
termination_by structural a
end

mutual
theorem E.same_ok : ∀ {a b : E}, a.same b = true → a = b := by
  intro a b h
  cases a <;> cases b <;> first
    | (simp only [E.same] at h; cases h; done)
    | (simp only [E.same, Bool.and_eq_true] at h)
  · rw [iN_inj h]
  · rw [Nat.eq_of_beq_eq_true h]
  · rfl
  · rw [opN_inj h.1.1.1, kN_inj h.1.1.2, E.same_ok h.1.2, E.same_ok h.2]
  · rw [unN_inj h.1.1, kN_inj h.1.2, E.same_ok h.2]
  · rw [kN_inj h.1, E.same_ok h.2]
  · rw [L.same_ok h.1, E.same_ok h.2]
  · rw [L.same_ok h]
  · rw [LL.same_ok h]
  · rw [B.same_ok h]
  · rw [B.same_ok h.1.1, E.same_ok h.1.2, E.same_ok h.2]
theorem L.same_ok : ∀ {a b : L}, a.same b = true → a = b := by
  intro a b h
  cases a <;> cases b <;> first
    | (simp only [L.same] at h; cases h; done)
    | (simp only [L.same, Bool.and_eq_true] at h)
  · rfl
  · rw [E.same_ok h.1, L.same_ok h.2]
  · rw [Nat.eq_of_beq_eq_true h]
  · rw [LL.same_ok h.1, E.same_ok h.2]
  · rw [L.same_ok h.1, L.same_ok h.2]
  · rw [L.same_ok h.1.1, E.same_ok h.1.2, E.same_ok h.2]
  · rw [L.same_ok h.1.1, Nat.eq_of_beq_eq_true h.1.2, Nat.eq_of_beq_eq_true h.2]
  · rw [L.same_ok h.1.1, E.same_ok h.1.2, E.same_ok h.2]
  · rw [E.same_ok h.1, E.same_ok h.2]
  · rw [L.same_ok h]
  · rw [Nat.eq_of_beq_eq_true h.1.1, L.same_ok h.1.2, LL.same_ok h.2]
  · rw [B.same_ok h.1.1, L.same_ok h.1.2, L.same_ok h.2]
theorem LL.same_ok : ∀ {a b : LL}, a.same b = true → a = b := by
  intro a b h
  cases a <;> cases b <;> first
    | (simp only [LL.same] at h; cases h; done)
    | (simp only [LL.same, Bool.and_eq_true] at h)
  · rfl
  · rw [L.same_ok h.1, LL.same_ok h.2]
  · rw [Nat.eq_of_beq_eq_true h]
  · rw [LL.same_ok h.1, LL.same_ok h.2]
  · rw [Nat.eq_of_beq_eq_true h.1.1, L.same_ok h.1.2, LL.same_ok h.2]
theorem B.same_ok : ∀ {a b : B}, a.same b = true → a = b := by
  intro a b h
  cases a <;> cases b <;> first
    | (simp only [B.same] at h; cases h; done)
    | (simp only [B.same, Bool.and_eq_true] at h)
  · rw [bN_inj h]
  · rw [Nat.eq_of_beq_eq_true h]
  · rw [E.same_ok h.1, E.same_ok h.2]
  · rw [E.same_ok h.1, E.same_ok h.2]
  · rw [L.same_ok h.1, L.same_ok h.2]
  · rw [L.same_ok h.1, L.same_ok h.2]
  · rw [B.same_ok h]
  · rw [B.same_ok h.1, B.same_ok h.2]
end

/-! ### another index -/
mutual
def E.inst (a : E) (x : E) : E := match a with
  | .lit n => .lit n
  | .var i => .var i
  | .ix => x
  | .bin o k a b => .bin o k (a.inst x) (b.inst x)
  | .un o k a => .un o k (a.inst x)
  | .conv k a => .conv k (a.inst x)
  | .get l i => .get (l.inst x) (i.inst x)
  | .len l => .len (l.inst x)
  | .cnt l => .cnt (l.inst x)
  | .ofB b => .ofB (b.inst x)
  | .ite b u v => .ite (b.inst x) (u.inst x) (v.inst x)
termination_by structural a
def L.inst (a : L) (x : E) : L := match a with
  | .nil => .nil
  | .cons e l => .cons (e.inst x) (l.inst x)
  | .var i => .var i
  | .at l i => .at (l.inst x) (i.inst x)
  | .cat a b => .cat (a.inst x) (b.inst x)
  | .cut l lo hi => .cut (l.inst x) (lo.inst x) (hi.inst x)
  | .sub l off n => .sub (l.inst x) off n
  | .set l i u => .set (l.inst x) (i.inst x) (u.inst x)
  | .rep n u => .rep (n.inst x) (u.inst x)
  | .byt l => .byt (l.inst x)
  | .app f a as => .app f (a.inst x) (as.inst x)
  | .ite b u v => .ite (b.inst x) (u.inst x) (v.inst x)
termination_by structural a
def LL.inst (a : LL) (x : E) : LL := match a with
  | .nil => .nil
  | .cons l ls => .cons (l.inst x) (ls.inst x)
  | .var i => .var i
  | .cat a b => .cat (a.inst x) (b.inst x)
  | .app f a as => .app f (a.inst x) (as.inst x)
termination_by structural a
def B.inst (a : B) (x : E) : B := match a with
  | .lit b => .lit b
  | .var i => .var i
  | .lt a b => .lt (a.inst x) (b.inst x)
  | .eq a b => .eq (a.inst x) (b.inst x)
  | .leq a b => .leq (a.inst x) (b.inst x)
  | .seq a b => .seq (a.inst x) (b.inst x)
  | .not a => .not (a.inst x)
  | .and a b => .and (a.inst x) (b.inst x)
termination_by structural a
end
def Env.at (ρ : Env) (i : Int) : Env := { ρ with ix := i }
mutual
theorem E.inst_den (ρ : Env) (x : E) : ∀ a : E, (a.inst x).den ρ = a.den (ρ.at (x.den ρ))
  | .lit _ | .var _ | .ix => by simp [E.inst, E.den, Env.at]
  | .bin _ _ a b => by simp [E.inst, E.den, E.inst_den ρ x a, E.inst_den ρ x b]
  | .un _ _ a | .conv _ a => by simp [E.inst, E.den, E.inst_den ρ x a]
  | .get l i => by simp [E.inst, E.den, L.inst_den ρ x l, E.inst_den ρ x i]
  | .len l => by simp [E.inst, E.den, L.inst_den ρ x l]
  | .cnt l => by simp [E.inst, E.den, LL.inst_den ρ x l]
  | .ofB b => by simp [E.inst, E.den, B.inst_den ρ x b]
  | .ite b u v => by simp [E.inst, E.den, B.inst_den ρ x b, E.inst_den ρ x u, E.inst_den ρ x v]
theorem L.inst_den (ρ : Env) (x : E) : ∀ a : L, (a.inst x).den ρ = a.den (ρ.at (x.den ρ))
  | .nil | .var _ => by simp [L.inst, L.den, Env.at]
  | .cons e l => by simp [L.inst, L.den, E.inst_den ρ x e, L.inst_den ρ x l]
  | .at l i => by simp [L.inst, L.den, LL.inst_den ρ x l, E.inst_den ρ x i]
  | .cat a b => by simp [L.inst, L.den, L.inst_den ρ x a, L.inst_den ρ x b]
  | .cut l lo hi => by simp [L.inst, L.den, L.inst_den ρ x l, E.inst_den ρ x lo, E.inst_den ρ x hi]
  | .sub l _ _ => by simp [L.inst, L.den, L.inst_den ρ x l]
  | .set l i u => by simp [L.inst, L.den, L.inst_den ρ x l, E.inst_den ρ x i, E.inst_den ρ x u]
  | .rep n u => by simp [L.inst, L.den, E.inst_den ρ x n, E.inst_den ρ x u]
  | .byt l => by simp [L.inst, L.den, L.inst_den ρ x l]
  | .app _ a as => by simp [L.inst, L.den, L.inst_den ρ x a, LL.inst_den ρ x as]
  | .ite b u v => by simp [L.inst, L.den, B.inst_den ρ x b, L.inst_den ρ x u, L.inst_den ρ x v]
theorem LL.inst_den (ρ : Env) (x : E) : ∀ a : LL, (a.inst x).den ρ = a.den (ρ.at (x.den ρ))
  | .nil | .var _ => by simp [LL.inst, LL.den, Env.at]
  | .cons l ls => by simp [LL.inst, LL.den, L.inst_den ρ x l, LL.inst_den ρ x ls]
  | .cat a b => by simp [LL.inst, LL.den, LL.inst_den ρ x a, LL.inst_den ρ x b]
  | .app _ a as => by simp [LL.inst, LL.den, L.inst_den ρ x a, LL.inst_den ρ x as]
theorem B.inst_den (ρ : Env) (x : E) : ∀ a : B, (a.inst x).den ρ = a.den (ρ.at (x.den ρ))
  | .lit _ | .var _ => by simp [B.inst, B.den, Env.at]
  | .lt a b | .eq a b => by simp [B.inst, B.den, E.inst_den ρ x a, E.inst_den ρ x b]
  | .leq a b | .seq a b => by simp [B.inst, B.den, L.inst_den ρ x a, L.inst_den ρ x b]
  | .not a => by simp [B.inst, B.den, B.inst_den ρ x a]
  | .and a b => by simp [B.inst, B.den, B.inst_den ρ x a, B.inst_den ρ x b]
end
end Go.Proofs.Ytnklnboglijcbaa.E
