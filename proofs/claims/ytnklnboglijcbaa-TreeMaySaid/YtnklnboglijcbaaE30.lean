/- Between which bounds a number lies. Plain Lean over the kit's model; no program. -/
import Derived.Test.YtnklnboglijcbaaE3
namespace Go.Proofs.Ytnklnboglijcbaa.E
open Go Go.RowKit
set_option linter.unusedVariables false

def kMin : IntKind → Int
  | .i8 => .negSucc 127 | .i16 => .negSucc 32767 | .i32 => .negSucc 2147483647 | .i64 => .negSucc 9223372036854775807
  | .u8 | .u16 | .u32 | .u64 => .ofNat 0
def kMax : IntKind → Int
  | .i8 => .ofNat 127 | .i16 => .ofNat 32767 | .i32 => .ofNat 2147483647 | .i64 => .ofNat 9223372036854775807
  | .u8 => .ofNat 255 | .u16 => .ofNat 65535 | .u32 => .ofNat 4294967295 | .u64 => .ofNat 18446744073709551615
theorem wrap_rg (k : IntKind) (x : Int) : kMin k ≤ k.wrap x ∧ k.wrap x ≤ kMax k := by
  cases k <;> simp [IntKind.wrap, IntKind.bits, IntKind.signed, kMin, kMax] <;> (try split) <;> omega
theorem wrap_id (k : IntKind) (x : Int) (h1 : kMin k ≤ x) (h2 : x ≤ kMax k) : k.wrap x = x := by
  cases k <;> simp [kMin, kMax] at h1 h2 <;> simp [IntKind.wrap, IntKind.bits, IntKind.signed] <;> (try split) <;> omega
theorem has_min (k : IntKind) : k.min = kMin k := by cases k <;> rfl
theorem has_max (k : IntKind) : k.max = kMax k := by cases k <;> rfl
theorem wrap_has {k : IntKind} {x : Int} (h : k.has x) : k.wrap x = x := wrap_id k x (by rw [← has_min]; exact h.1) (by rw [← has_max]; exact h.2)

abbrev Rg := Option Int × Option Int
def inRg (r : Rg) (x : Int) : Prop := (∀ a, r.1 = some a → a ≤ x) ∧ (∀ b, r.2 = some b → x ≤ b)
/-- not above, in a form that reckons well. -/
def leb (a b : Int) : Bool := !ltb b a
theorem leb_ok {a b : Int} (h : leb a b = true) : a ≤ b := by
  unfold leb at h; rw [ltb_eq] at h; simp at h; exact h
theorem ltb_ok {a b : Int} (h : ltb a b = true) : a < b := by rw [ltb_eq] at h; simpa using h
theorem ltb_no {a b : Int} (h : ltb a b = false) : b ≤ a := by rw [ltb_eq] at h; simpa using h
def fitR (k : IntKind) (lo hi : Int) : Rg := bif leb (kMin k) lo && leb hi (kMax k) then (some lo, some hi) else (some (kMin k), some (kMax k))
theorem inRg_k (k : IntKind) (x : Int) : inRg (some (kMin k), some (kMax k)) (k.wrap x) :=
  ⟨fun a h => by cases h; exact (wrap_rg k x).1, fun b h => by cases h; exact (wrap_rg k x).2⟩
theorem fitR_ok {k : IntKind} {lo hi x : Int} (h1 : lo ≤ x) (h2 : x ≤ hi) : inRg (fitR k lo hi) (k.wrap x) := by
  unfold fitR
  cases hc : leb (kMin k) lo && leb hi (kMax k) with
  | true =>
    simp only [Bool.and_eq_true] at hc
    rw [wrap_id k x (Int.le_trans (leb_ok hc.1) h1) (Int.le_trans h2 (leb_ok hc.2))]
    exact ⟨fun a h => by cases h; exact h1, fun b h => by cases h; exact h2⟩
  | false => exact inRg_k k x
def rngT : Rg := (none, none)
theorem inRgT (x : Int) : inRg rngT x := ⟨fun _ h => (by cases h), fun _ h => (by cases h)⟩
def wraps : BinOp → Bool
  | .add | .sub | .mul | .quo | .and | .or | .xor | .andNot | .shl => true
  | _ => false
theorem wraps_ok {o : BinOp} (h : wraps o = true) (k : IntKind) (a b : Int) : ∃ x, binI o k a b = k.wrap x := by
  cases o <;> first | (cases h; done) | exact ⟨_, rfl⟩
/-- the bounds of what an operation gives, those of its numbers being known. -/
def binR (o : BinOp) (k : IntKind) (r s : Rg) : Rg := match o, r, s with
  | .add, (some l, some h), (some l', some h') => fitR k (l + l') (h + h')
  | .sub, (some l, some h), (some l', some h') => fitR k (l - h') (h - l')
  | .rem, (some (.ofNat _), h), (some (.ofNat (m + 1)), some (.ofNat m')) => (some (.ofNat 0), some (.ofNat (m' - 1)))
  | .and, _, (some (.ofNat _), some (.ofNat m)) => bif leb (.ofNat m) (kMax k) then (some (.ofNat 0), some (.ofNat m)) else (some (kMin k), some (kMax k))
  | .shr, (some (.ofNat l), some (.ofNat h)), (some (.ofNat a), some (.ofNat b)) => (some (.ofNat 0), some (.ofNat (h / 2 ^ (bif Nat.ble a k.bits then a else k.bits))))
  | .rem, _, _ => rngT
  | o, _, _ => bif wraps o then (some (kMin k), some (kMax k)) else rngT
theorem and_le (n : Nat) (a : Int) (m : Nat) : (BitVec.ofInt n a &&& BitVec.ofInt n (m : Int)).toNat ≤ m := by
  rw [BitVec.toNat_and]
  refine Nat.le_trans Nat.and_le_right ?_
  rw [BitVec.toNat_ofInt]
  have : ((m : Int) % ((2 ^ n : Nat) : Int)).toNat = m % 2 ^ n := by
    rw [← Int.natCast_emod]; exact Int.toNat_natCast _
  rw [this]; exact Nat.mod_le _ _
theorem inRg_some {l h x : Int} (hr : inRg (some l, some h) x) : l ≤ x ∧ x ≤ h := ⟨hr.1 _ rfl, hr.2 _ rfl⟩
theorem wr_ok (o : BinOp) (k : IntKind) (a b : Int) : inRg (bif wraps o then (some (kMin k), some (kMax k)) else rngT) (binI o k a b) := by
  cases hw : wraps o with
  | true => obtain ⟨x, e⟩ := wraps_ok hw k a b; rw [e]; exact inRg_k k x
  | false => exact inRgT _
theorem binR_ok {o : BinOp} {k : IntKind} {r s : Rg} {a b : Int} (h1 : inRg r a) (h2 : inRg s b) : inRg (binR o k r s) (binI o k a b) := by
  unfold binR
  split
  · have := inRg_some h1; have := inRg_some h2; exact fitR_ok (by omega) (by omega)
  · have := inRg_some h1; have := inRg_some h2; exact fitR_ok (by omega) (by omega)
  · rename_i l h m m'
    have h0 := h1.1 _ rfl
    have := inRg_some h2
    simp only [Int.ofNat_eq_natCast] at *
    have ha : 0 ≤ a := by omega
    have hb : 0 < b := by omega
    simp only [binI]
    have e1 : 0 ≤ a.tmod b := Int.tmod_nonneg b ha
    have e2 : a.tmod b < b := Int.tmod_lt_of_pos a hb
    exact ⟨fun x hx => by cases hx; simpa using e1, fun x hx => by cases hx; (try simp only [Int.ofNat_eq_natCast] at *); omega⟩
  · rename_i m0 m
    cases hc : leb (.ofNat m) (kMax k) with
    | false => exact inRg_k k _
    | true =>
      have := inRg_some h2
      simp only [Int.ofNat_eq_natCast] at *
      have hb : b = (b.toNat : Int) := by omega
      have hle : (BitVec.ofInt k.bits a &&& BitVec.ofInt k.bits b).toNat ≤ m := by
        rw [hb]; refine Nat.le_trans (and_le _ _ _) ?_; omega
      have hmx := leb_ok hc
      have : binI .and k a b = ((BitVec.ofInt k.bits a &&& BitVec.ofInt k.bits b).toNat : Int) := by
        simp only [binI]
        refine wrap_id k _ ?_ ?_
        · have : kMin k ≤ 0 := by cases k <;> simp [kMin]
          omega
        · (try simp only [Int.ofNat_eq_natCast] at hmx); omega
      rw [this]
      exact ⟨fun x hx => by cases hx; simp, fun x hx => by cases hx; (try simp only [Int.ofNat_eq_natCast] at *); omega⟩
  · rename_i l h a' b'
    have := inRg_some h1
    have := inRg_some h2
    simp only [Int.ofNat_eq_natCast] at *
    obtain ⟨x, rfl⟩ : ∃ x : Nat, a = x := ⟨a.toNat, by omega⟩
    obtain ⟨y, rfl⟩ : ∃ y : Nat, b = y := ⟨b.toNat, by omega⟩
    simp only [binI, Int.toNat_natCast]
    have hp : ((2 : Int) ^ (min y k.bits)) = ((2 ^ min y k.bits : Nat) : Int) := by simp
    rw [hp, Int.fdiv_eq_ediv_of_nonneg _ (Int.natCast_nonneg _), ← Int.natCast_ediv]
    refine ⟨fun z hz => by cases hz; exact Int.natCast_nonneg _, fun z hz => ?_⟩
    cases hz
    have : (bif Nat.ble a' k.bits then a' else k.bits) ≤ min y k.bits := by
      cases hq : Nat.ble a' k.bits with
      | true => have := Nat.le_of_ble_eq_true hq; simp only [cond_true]; omega
      | false =>
        have : ¬ a' ≤ k.bits := fun hc => by rw [Nat.ble_eq_true_of_le hc] at hq; cases hq
        simp only [cond_false]; omega
    have hxh : x ≤ h := by omega
    exact Int.ofNat_le.2 (Nat.le_trans (Nat.div_le_div_right hxh) (Nat.div_le_div_left (Nat.pow_le_pow_right (by omega) this) (Nat.pow_pos (by omega))))
  · exact inRgT _
  · exact wr_ok _ k a b
def hullR (r s : Rg) : Rg :=
  (match r.1, s.1 with
    | some a, some b => some (bif ltb a b then a else b)
    | _, _ => none,
   match r.2, s.2 with
    | some a, some b => some (bif ltb a b then b else a)
    | _, _ => none)
theorem hullR_l {r s : Rg} {x : Int} (h : inRg r x) : inRg (hullR r s) x := by
  obtain ⟨r1, r2⟩ := r; obtain ⟨s1, s2⟩ := s
  refine ⟨fun a ha => ?_, fun b hb => ?_⟩
  · cases r1 <;> cases s1 <;> simp only [hullR] at ha <;> cases ha
    rename_i u v
    have := h.1 _ rfl
    cases hc : ltb u v with
    | true => exact this
    | false => have := ltb_no hc; simp only [cond_false]; omega
  · cases r2 <;> cases s2 <;> simp only [hullR] at hb <;> cases hb
    rename_i u v
    have := h.2 _ rfl
    cases hc : ltb u v with
    | true => have := ltb_ok hc; simp only [cond_true]; omega
    | false => exact this
theorem hullR_r {r s : Rg} {x : Int} (h : inRg s x) : inRg (hullR r s) x := by
  obtain ⟨r1, r2⟩ := r; obtain ⟨s1, s2⟩ := s
  refine ⟨fun a ha => ?_, fun b hb => ?_⟩
  · cases r1 <;> cases s1 <;> simp only [hullR] at ha <;> cases ha
    rename_i u v
    have := h.1 _ rfl
    cases hc : ltb u v with
    | true => have := ltb_ok hc; simp only [cond_true]; omega
    | false => exact this
  · cases r2 <;> cases s2 <;> simp only [hullR] at hb <;> cases hb
    rename_i u v
    have := h.2 _ rfl
    cases hc : ltb u v with
    | true => exact this
    | false => have := ltb_no hc; simp only [cond_false]; omega
def rng : Nat → E → Rg
  | 0, _ => rngT
  | d + 1, e => match e with
    | .lit n => (some n, some n)
    | .conv k a => match rng d a with
      | (some l, some h) => fitR k l h
      | _ => (some (kMin k), some (kMax k))
    | .bin o k a b => binR o k (rng d a) (rng d b)
    | .un .neg k _ | .un .xor k _ => (some (kMin k), some (kMax k))
    | .len _ | .cnt _ => (some (.ofNat 0), none)
    | .ofB _ => (some (.ofNat 0), some (.ofNat 1))
    | .get (.byt _) _ => (some (.ofNat 0), some (.ofNat 255))
    | .ite _ x y => hullR (rng d x) (rng d y)
    | _ => rngT
theorem byte_rg (i : Int) : 0 ≤ byte i ∧ byte i ≤ 255 := by
  unfold byte
  have := (UInt8.ofNat i.toNat).toNat_lt
  omega
theorem rng_ok (ρ : Env) : ∀ (d : Nat) (e : E), inRg (rng d e) (e.den ρ)
  | 0, e => inRgT _
  | d + 1, e => by
    unfold rng
    split
    · exact ⟨fun _ h => by cases h; exact Int.le_refl _, fun _ h => by cases h; exact Int.le_refl _⟩
    · rename_i k a
      have ih := rng_ok ρ d a
      split
      · rename_i l h hr
        rw [hr] at ih
        obtain ⟨h1, h2⟩ := inRg_some ih
        exact fitR_ok h1 h2
      · exact inRg_k k _
    · rename_i o k a b
      exact binR_ok (rng_ok ρ d a) (rng_ok ρ d b)
    · exact inRg_k _ _
    · exact inRg_k _ _
    · exact ⟨fun _ h => by cases h; simp [E.den], fun _ h => by cases h⟩
    · exact ⟨fun _ h => by cases h; simp [E.den], fun _ h => by cases h⟩
    · rename_i b
      simp only [E.den]
      refine ⟨fun _ h => ?_, fun _ h => ?_⟩ <;> cases h <;> cases b.den ρ <;> simp [b2i]
    · rename_i l i
      simp only [E.den, L.den]
      have : ∀ (l : List Int) (n : Nat), 0 ≤ (l.map byte).getD n 0 ∧ (l.map byte).getD n 0 ≤ 255 := by
        intro l n
        rw [List.getD]
        cases hq : (l.map byte)[n]? with
        | none => simp
        | some v =>
          rw [List.getElem?_map] at hq
          obtain ⟨u, _, rfl⟩ := Option.map_eq_some_iff.1 hq
          exact byte_rg u
      exact ⟨fun _ h => by cases h; exact (this _ _).1, fun _ h => by cases h; exact (this _ _).2⟩
    · rename_i b x y
      simp only [E.den]
      cases b.den ρ with
      | true => exact hullR_l (rng_ok ρ d x)
      | false => exact hullR_r (rng_ok ρ d y)
    · exact inRgT _
/-- surely less, surely not? -/
def ltO : Option Int → Option Int → Bool
  | some a, some b => ltb a b
  | _, _ => false
def leO : Option Int → Option Int → Bool
  | some a, some b => leb a b
  | _, _ => false
def ltR (r s : Rg) : Option Bool := bif ltO r.2 s.1 then some true else bif leO s.2 r.1 then some false else none
theorem ltR_ok {r s : Rg} {a b : Int} {t : Bool} (h1 : inRg r a) (h2 : inRg s b) (h : ltR r s = some t) : ltb a b = t := by
  obtain ⟨l, hh⟩ := r
  obtain ⟨l', h'⟩ := s
  unfold ltR at h
  simp only at h
  cases hc : ltO hh l' with
  | true =>
    rw [hc] at h; cases h
    cases hh <;> cases l' <;> simp only [ltO] at hc <;> first | (cases hc; done) | skip
    have e1 := h1.2 _ rfl
    have e2 := h2.1 _ rfl
    have := ltb_ok hc
    rw [ltb_eq]; simp; omega
  | false =>
    rw [hc, cond_false] at h
    cases hd : leO h' l with
    | true =>
      rw [hd] at h; cases h
      cases h' <;> cases l <;> simp only [leO] at hd <;> first | (cases hd; done) | skip
      have e1 := h1.1 _ rfl
      have e2 := h2.2 _ rfl
      have := leb_ok hd
      rw [ltb_eq]; simp; omega
    | false => rw [hd] at h; cases h
end Go.Proofs.Ytnklnboglijcbaa.E
