/- A law's arguments, opened by how they are read: what stands in their cells. Plain Lean over the kit's model; no program. -/
import Derived.Test.YtgpoomoifgfajaaFC
import Derived.ChangeArms
import GoSem.ClaimJoined
import Derived.OpenShut
namespace Go.Proofs.Ytgpoomoifgfajaa.E
open Go Go.RowKit
set_option linter.unusedVariables false

/-- the kinds of cells. -/
inductive K0 where
  | int (k : IntKind)
  | ints (z : Nat) (k : IntKind)
inductive K1 where
  | int (k : IntKind)
  | bool
  | str
  | bytes (n : Nat)
  | sl (ks : List K0)
def K1.w : K1 → Nat
  | .bytes n => n
  | _ => 1
def widths : List K1 → Nat
  | [] => 0
  | k :: l => k.w + widths l

/-! ### by the type -/
def allInt (k : IntKind) : List K1 → Bool
  | [] => true
  | .int k' :: l => decide (k = k') && allInt k l
  | _ => false
def flatI : List K1 → Option (Nat × IntKind)
  | .int k :: l => if allInt k l then some (l.length + 1, k) else none
  | _ => none
def kinds0 : List K1 → Option (List K0)
  | [] => some []
  | .int k :: l => (kinds0 l).map (.int k :: ·)
  | .sl [.int k] :: l => (kinds0 l).map (.ints 1 k :: ·)
  | .sl (.int k :: ks) :: l => if ks.all (fun x => match x with | .int k' => decide (k = k') | _ => false) then (kinds0 l).map (.ints (ks.length + 1) k :: ·) else none
  | _ => none
def fieldsK (P : Program) (r : TypeId → Option (List K1)) : List Field → Nat → Option (List K1)
  | [], _ => some []
  | f :: fs, o => match r f.type with
    | some l => if Nat.beq f.offset o && Nat.beq (P.cellsOf f.type) (widths l) then (fieldsK P r fs (o + widths l)).map (l ++ ·) else none
    | none => none
def timesK (l : List K1) : Nat → List K1
  | 0 => []
  | n + 1 => l ++ timesK l n
def kindsT (P : Program) : Nat → TypeId → Option (List K1)
  | 0, _ => none
  | d + 1, t => match P.underlying t with
    | some (.int k) => some [.int k]
    | some .bool => some [.bool]
    | some .string => some [.str]
    | some (.struct fs) => match fieldsK P (kindsT P d) fs.toList 0 with
      | some l => if Nat.beq (P.cellsOf t) (widths l) then some l else none
      | none => none
    | some (.array n e) => match kindsT P d e with
      | some [.int .u8] => if Nat.beq (P.cellsOf t) n && Nat.beq (P.cellsOf e) 1 then some [.bytes n] else none
      | some l => if Nat.beq (P.cellsOf e) (widths l) && Nat.beq (P.cellsOf t) (widths (timesK l n)) then some (timesK l n) else none
      | none => none
    | some (.slice e) => match kindsT P d e with
      | some l => match kinds0 l with
        | some ks => if Nat.beq (P.cellsOf e) ks.length && Nat.blt 0 ks.length && Nat.blt 0 (P.bytesOf e) then some [.sl ks] else none
        | none => none
      | none => none
    | _ => none

/-! ### what stands there -/
def Al {α β : Type} (p : α → β → Prop) : List α → List β → Prop
  | [], [] => True
  | a :: as, b :: bs => p a b ∧ Al p as bs
  | _, _ => False
/-- a slice by its rows. -/
def RdS (w : World) (z : Nat) (p : List Value → Prop) (v : Value) : Prop := ∃ (a : Option Addr) (len cap : Nat) (rows : List (List Value)), v = .slice a len cap ∧ len ≤ cap ∧ cap ≤ reachBytes ∧ rows.length = len ∧ (∀ r ∈ rows, r.length = z ∧ p r) ∧
  ((len = 0 ∧ cap = 0) ∨ ∃ b d, a = some ⟨b, d, none⟩ ∧ (len = 0 ∨ ∃ cs e f, w.heap[b]? = some (.cells cs e f) ∧ (cs.toList.drop d).take (len * z) = rows.flatten))
def RdI (k : IntKind) (v : Value) : Prop := ∃ n, v = .int k n ∧ k.has n
def Rd0 (w : World) (q : K0) (v : Value) : Prop := match q with
  | .int k => RdI k v
  | .ints z k => RdS w z (fun r => ∀ x ∈ r, RdI k x) v
def Rd1 (w : World) (q : K1) (xs : List Value) : Prop := match q with
  | .int k => ∃ v, xs = [v] ∧ RdI k v
  | .bool => ∃ b, xs = [.bool b]
  | .str => ∃ s : ByteArray, xs = [.string s] ∧ s.size ≤ reachBytes
  | .bytes n => xs.length = n ∧ ∀ x ∈ xs, RdI .u8 x
  | .sl ks => ks ≠ [] ∧ ∃ v, xs = [v] ∧ RdS w ks.length (fun r => Al (Rd0 w) ks r) v
/-- cells, group by group. -/
def RdG (w : World) : List K1 → List Value → Prop
  | [], xs => xs = []
  | k :: l, xs => ∃ a b, xs = a ++ b ∧ a.length = k.w ∧ Rd1 w k a ∧ RdG w l b
theorem RdG.app {w : World} : ∀ {l m : List K1} {xs ys : List Value}, RdG w l xs → RdG w m ys → RdG w (l ++ m) (xs ++ ys)
  | [], m, xs, ys, h, h' => by have h : xs = [] := h; subst h; exact h'
  | k :: l, m, xs, ys, ⟨a, b, e, h1, h2, h3⟩, h' => ⟨a, b ++ ys, by rw [e, List.append_assoc], h1, h2, RdG.app h3 h'⟩
theorem RdG.len {w : World} : ∀ {l : List K1} {xs : List Value}, RdG w l xs → xs.length = widths l
  | [], xs, h => by have h : xs = [] := h; subst h; rfl
  | k :: l, xs, ⟨a, b, e, h1, h2, h3⟩ => by rw [e, List.length_append, h1, RdG.len h3]; rfl

section
variable {H : Type} {enc : TypeId × Value → H} {P : Program} {w : World}
theorem has_of_wf {k : IntKind} {n : Int} (h : (Lit.int k n).wf = true) : k.has n := by
  simp only [Lit.wf, Bool.and_eq_true, decide_eq_true_eq] at h; exact h
def light (l : List Nat) : Prop := ∀ n ∈ l, n ≤ reachBytes
theorem light.left {a b : List Nat} (h : light (a ++ b)) : light a := fun n hn => h n (List.mem_append_left _ hn)
theorem light.right {a b : List Nat} (h : light (a ++ b)) : light b := fun n hn => h n (List.mem_append_right _ hn)
theorem light_all {e : TypeId} : ∀ {ds : List (DataW H)}, light (DataW.weightsAll P e ds) → ∀ d ∈ ds, light (d.weights P e)
  | [], _, d, hd => by cases hd
  | x :: ds, h, d, hd => by
    unfold DataW.weightsAll at h
    rcases List.mem_cons.1 hd with rfl | hd
    · exact h.left
    · exact light_all h.right d hd
theorem RdG.allInt {k : IntKind} : ∀ {l : List K1} {xs : List Value}, E.allInt k l = true → RdG w l xs → xs.length = l.length ∧ ∀ x ∈ xs, RdI k x
  | [], xs, _, h => by have h : xs = [] := h; subst h; exact ⟨rfl, fun x hx => by cases hx⟩
  | q :: l, xs, hk, ⟨a, b, e, h1, h2, h3⟩ => by
    cases q with
    | int k' =>
      simp only [E.allInt, Bool.and_eq_true, decide_eq_true_eq] at hk
      obtain ⟨rfl, hk⟩ := hk
      obtain ⟨v, rfl, hv⟩ := h2
      obtain ⟨i1, i2⟩ := RdG.allInt hk h3
      subst e
      refine ⟨by simp [i1], fun x hx => ?_⟩
      simp only [List.cons_append, List.nil_append, List.mem_cons] at hx
      rcases hx with rfl | hx
      · exact hv
      · exact i2 x hx
    | _ => simp [E.allInt] at hk
theorem RdS.mono {z : Nat} {p q : List Value → Prop} {v : Value} (h : RdS w z p v) (hpq : ∀ r, r.length = z → p r → q r) : RdS w z q v := by
  obtain ⟨a, len, cap, rows, h1, h2, h3, h4, h5, h6⟩ := h
  exact ⟨a, len, cap, rows, h1, h2, h3, h4, fun r hr => ⟨(h5 r hr).1, hpq r (h5 r hr).1 (h5 r hr).2⟩, h6⟩
theorem Al.ints {k : IntKind} : ∀ {ks : List K0} {r : List Value}, (ks.all fun x => match x with | .int k' => decide (k = k') | _ => false) = true → Al (Rd0 w) ks r → ∀ x ∈ r, RdI k x
  | [], [], _, _, x, hx => by cases hx
  | [], _ :: _, _, h, _, _ => by cases h
  | q :: ks, [], _, h, x, hx => by cases hx
  | q :: ks, y :: r, ha, ⟨h1, h2⟩, x, hx => by
    simp only [List.all_cons, Bool.and_eq_true] at ha
    rcases List.mem_cons.1 hx with rfl | hx
    · cases q with
      | int k' =>
        have := ha.1
        simp only [decide_eq_true_eq] at this
        subst this; exact h1
      | ints z k' => simp at ha
    · exact Al.ints ha.2 h2 x hx
theorem kinds0_ok : ∀ {l : List K1} {ks : List K0} {xs : List Value}, kinds0 l = some ks → RdG w l xs → Al (Rd0 w) ks xs
  | [], ks, xs, h, hr => by
    have hr : xs = [] := hr
    subst hr
    simp only [kinds0, Option.some.injEq] at h
    subst h; trivial
  | .int k :: l, ks, xs, h, ⟨a, b, e, h1, h2, h3⟩ => by
    simp only [kinds0, Option.map_eq_some_iff] at h
    obtain ⟨ks', hk, rfl⟩ := h
    obtain ⟨v, rfl, hv⟩ := h2
    subst e
    exact ⟨hv, kinds0_ok hk h3⟩
  | .sl [.int k] :: l, ks, xs, h, ⟨a, b, e, h1, h2, h3⟩ => by
    simp only [kinds0, Option.map_eq_some_iff] at h
    obtain ⟨ks', hk, rfl⟩ := h
    obtain ⟨_, v, rfl, hv⟩ := h2
    subst e
    refine ⟨?_, kinds0_ok hk h3⟩
    exact RdS.mono hv fun r _ hr => Al.ints (ks := [.int k]) (by simp) hr
  | .sl (.int k :: q :: ks2) :: l, ks, xs, h, ⟨a, b, e, h1, h2, h3⟩ => by
    simp only [kinds0] at h
    split at h
    · rename_i ha
      simp only [Option.map_eq_some_iff] at h
      obtain ⟨ks', hk, rfl⟩ := h
      obtain ⟨_, v, rfl, hv⟩ := h2
      subst e
      refine ⟨?_, kinds0_ok hk h3⟩
      exact RdS.mono hv fun r _ hr => Al.ints (ks := .int k :: q :: ks2) (by simpa using ha) hr
    · cases h
  | .bool :: l, ks, xs, h, _ => by simp [kinds0] at h
  | .str :: l, ks, xs, h, _ => by simp [kinds0] at h
  | .bytes n :: l, ks, xs, h, _ => by simp [kinds0] at h
  | .sl [] :: l, ks, xs, h, _ => by simp [kinds0] at h
  | .sl (.ints z k :: ks2) :: l, ks, xs, h, _ => by simp [kinds0] at h

theorem cells_get {a : Addr} {n : Nat} {cs : List Value} (h : w.cells? 0 a n = some cs) : cs.length = n ∧ ∀ i, i < n → w.cell? (a.add i) = cs[i]? := by
  unfold World.cells? at h
  simp only [Nat.zero_le, if_true] at h
  exact ⟨by simpa using mapM_some_length h, fun i hi => mapM_some_get h i i (by simp [hi])⟩
theorem cell_block {a : Addr} {i : Nat} {v : Value} (h : w.cell? (a.add i) = some v) : (i = 0 → a.spot = none) ∧ ∃ cs e f, w.heap[a.block]? = some (.cells cs e f) ∧ cs[a.off + i]? = some v := by
  unfold World.cell? at h
  have hb : (a.add i).block = a.block := by unfold Addr.add; split <;> rfl
  have ho : (a.add i).off = a.off + i := by unfold Addr.add; split <;> simp_all
  rw [hb, ho] at h
  split at h
  · rename_i c e f hh
    split at h
    · cases h
    · rename_i hs
      refine ⟨fun hi => ?_, c, e, f, hh, h⟩
      subst hi
      have : (a.add 0).spot = a.spot := rfl
      rw [this] at hs
      simpa using hs
  · cases h
/-- rows, one behind the other, are what stands there. -/
theorem flat_rows {z : Nat} {cs : List Value} {d : Nat} : ∀ (n : Nat) (row : Nat → List Value), (∀ i, i < n → (row i).length = z ∧ ∀ j, j < z → cs[d + (i * z + j)]? = (row i)[j]?) → (cs.drop d).take (n * z) = ((List.range n).map row).flatten
  | 0, _, _ => by simp
  | n + 1, row, h => by
    rw [List.range_succ, List.map_append, List.flatten_append, ← flat_rows n row fun i hi => h i (by omega), Nat.succ_mul, List.take_add]
    congr 1
    obtain ⟨h1, h2⟩ := h n (by omega)
    simp only [List.map_cons, List.map_nil, List.flatten_cons, List.flatten_nil, List.append_nil]
    apply List.ext_getElem?
    intro j
    rw [List.getElem?_take]
    split
    · rename_i hj
      rw [List.drop_drop, List.getElem?_drop, ← h2 j hj, Nat.add_assoc]
    · rename_i hj
      rw [List.getElem?_eq_none (by omega)]
theorem trod_slice_rd {t e : TypeId} {z m : Nat} {cs : List Value} {x : DataW H × List MemPlace} {p : List Value → Prop} (ht : P.underlying t = some (.slice e)) (hz : P.cellsOf e = z) (hz0 : 0 < z) (hby : 0 < P.bytesOf e)
    (h : DataW.trod enc P w 0 (fun _ => true) true m t cs = some x) (hl : light (x.1.weights P t)) (hp : ∀ n r y, DataW.trod enc P w 0 (fun _ => true) true n e r = some y → light (y.1.weights P e) → r.length = z → p r) : ∃ v, cs = [v] ∧ RdS w z p v := by
  rcases DataW.trod_slice ht h with ⟨rfl, _⟩ | ⟨a, len, cap, elems, rest, n, _, rfl, rfl, _, hlc, _, hel, helem, hsp, _⟩
  · exact ⟨_, rfl, none, 0, 0, [], rfl, Nat.le_refl _, Nat.zero_le _, rfl, fun r hr => by (cases hr), .inl ⟨rfl, rfl⟩⟩
  · obtain ⟨hrl, hrest⟩ := hsp rfl
    have hw : light ((elems.map (·.1) ++ rest.map (·.1)).length * P.bytesOf e :: (DataW.weightsAll P e (elems.map (·.1)) ++ DataW.weightsAll P e (rest.map (·.1)))) := by
      have : (DataW.slice (elems.map (·.1)) (rest.map (·.1))).weights P t = (elems.map (·.1) ++ rest.map (·.1)).length * P.bytesOf e :: (DataW.weightsAll P e (elems.map (·.1)) ++ DataW.weightsAll P e (rest.map (·.1))) := by
        rw [DataW.weights, ht]; simp
      rw [← this]; exact hl
    have hcap : cap ≤ reachBytes := by
      have h1 := hw _ (List.mem_cons_self ..)
      simp only [List.length_append, List.length_map, hel, hrl] at h1
      have h2 : cap ≤ (len + (cap - len)) * P.bytesOf e := by
        rw [show len + (cap - len) = cap by omega]; exact Nat.le_mul_of_pos_right _ hby
      omega
    have hall : light (DataW.weightsAll P e (elems.map (·.1))) := fun k hk => hw k (List.mem_cons_of_mem _ (List.mem_append_left _ hk))
    let row := fun i => (w.cells? 0 (a.add (i * z)) z).getD []
    have hrow : ∀ i, i < len → w.cells? 0 (a.add (i * z)) z = some (row i) ∧ (row i).length = z ∧ p (row i) := by
      intro i hi
      have h1 := helem i hi
      rw [hz] at h1
      have h2 : elems[i]? = some elems[i] := by simp [hel, hi]
      rw [h2] at h1
      obtain ⟨cs', hc, ht'⟩ := Option.bind_eq_some_iff.1 h1
      have hrw : row i = cs' := by show (w.cells? 0 (a.add (i * z)) z).getD [] = cs'; rw [hc]; rfl
      have hlen := (cells_get hc).1
      exact ⟨by rw [hrw, hc], by rw [hrw]; exact hlen, by rw [hrw]; exact hp _ _ _ ht' (light_all hall _ (List.mem_map.2 ⟨_, List.getElem_mem (by omega), rfl⟩)) hlen⟩
    have hspot : 0 < cap → a.spot = none ∧ ∃ cs e f, w.heap[a.block]? = some (.cells cs e f) := by
      intro hc
      have first : ∃ v, w.cell? (a.add 0) = some v := by
        by_cases h0 : 0 < len
        · obtain ⟨c1, c2, _⟩ := hrow 0 h0
          have := (cells_get c1).2 0 hz0
          rw [Nat.zero_mul] at this
          have h3 : (row 0)[0]? = some ((row 0)[0]'(by omega)) := by simp
          exact ⟨_, (by rw [h3] at this; simpa [Addr.add] using this)⟩
        · have hl0 : len = 0 := by omega
          have h1 := hrest 0 (by omega)
          rw [hz, hl0] at h1
          have h2 : rest[0]? = some (rest[0]'(by omega)) := by simp
          rw [h2] at h1
          obtain ⟨cs', hc', _⟩ := Option.bind_eq_some_iff.1 h1
          have h4 := cells_get hc'
          have := h4.2 0 hz0
          have h3 : cs'[0]? = some (cs'[0]'(by omega)) := by simp
          exact ⟨_, (by rw [h3] at this; simpa [Addr.add] using this)⟩
      obtain ⟨v, hv⟩ := first
      obtain ⟨s1, c, e', f, s2, _⟩ := cell_block hv
      exact ⟨s1 rfl, c, e', f, s2⟩
    refine ⟨_, rfl, some a, len, cap, (List.range len).map row, rfl, hlc, hcap, by simp, fun r hr => ?_, ?_⟩
    · obtain ⟨i, hi, rfl⟩ := List.mem_map.1 hr
      have hi : i < len := by simpa using hi
      exact (hrow i hi).2
    · by_cases hc : cap = 0
      · exact .inl ⟨by omega, hc⟩
      · right
        obtain ⟨hs, c, e', f, hb⟩ := hspot (by omega)
        obtain ⟨b, d, s⟩ := a
        simp only at hs hb
        subst hs
        refine ⟨b, d, rfl, ?_⟩
        by_cases hl0 : len = 0
        · exact .inl hl0
        · refine .inr ⟨c, e', f, hb, ?_⟩
          refine flat_rows len row fun i hi => ⟨(hrow i hi).2.1, fun j hj => ?_⟩
          have hget := (cells_get (hrow i hi).1).2 j hj
          have h3 : (row i)[j]? = some ((row i)[j]'(by rw [(hrow i hi).2.1]; exact hj)) := by simp
          rw [h3] at hget ⊢
          obtain ⟨_, c2, e2, f2, q1, q2⟩ := cell_block hget
          have hab : (Addr.add ⟨b, d, none⟩ (i * z)).block = b := by unfold Addr.add; split <;> rfl
          have hao : (Addr.add ⟨b, d, none⟩ (i * z)).off = d + i * z := by unfold Addr.add; split <;> simp_all
          rw [hab, hb] at q1
          cases q1
          rw [hao] at q2
          rw [← Nat.add_assoc]
          simpa using q2
end
end Go.Proofs.Ytgpoomoifgfajaa.E
/- A law's arguments, opened by how they are read: by the type; letters for what is read. Plain Lean over the kit's model; no program. -/
namespace Go.Proofs.Ytgpoomoifgfajaa.E
open Go Go.RowKit
set_option linter.unusedVariables false
section
variable {H : Type} {enc : TypeId × Value → H} {P : Program} {w : World}
theorem light_each : ∀ {ts : List TypeId} {ds : List (DataW H)}, light (DataW.weightsEach P ts ds) → ∀ (i : Nat) (t : TypeId) (d : DataW H), ts[i]? = some t → ds[i]? = some d → light (d.weights P t)
  | [], _, _, i, t, d, h, _ => by cases h
  | _ :: _, [], _, i, t, d, _, h => by cases h
  | t0 :: ts, d0 :: ds, h, 0, t, d, h1, h2 => by
    simp only [List.getElem?_cons_zero, Option.some.injEq] at h1 h2
    subst h1; subst h2
    unfold DataW.weightsEach at h
    exact h.left
  | t0 :: ts, d0 :: ds, h, i + 1, t, d, h1, h2 => by
    unfold DataW.weightsEach at h
    exact light_each h.right i t d (by simpa using h1) (by simpa using h2)
theorem widths_app : ∀ a b : List K1, widths (a ++ b) = widths a + widths b
  | [], b => by simp [widths]
  | k :: a, b => by simp only [List.cons_append, widths, widths_app a b]; omega
theorem fields_rd {r : TypeId → Option (List K1)} {n : Nat} {cs : List Value} {xs : List (DataW H × List MemPlace)} : ∀ (fs : List Field) (i o : Nat) (l : List K1), fieldsK P r fs o = some l →
    (∀ (j : Nat) (f : Field), fs[j]? = some f → ∃ y, DataW.trod enc P w 0 (fun _ => true) true n f.type ((cs.drop f.offset).take (P.cellsOf f.type)) = some y ∧ light (y.1.weights P f.type)) →
    (∀ t l cs' y, r t = some l → DataW.trod enc P w 0 (fun _ => true) true n t cs' = some y → light (y.1.weights P t) → RdG w l cs') →
    RdG w l ((cs.drop o).take (widths l))
  | [], i, o, l, h, _, _ => by
    simp only [fieldsK, Option.some.injEq] at h
    subst h; show List.take 0 _ = []; simp
  | f :: fs, i, o, l, h, hx, hr => by
    unfold fieldsK at h
    split at h
    · rename_i l1 hf
      split at h
      · rename_i hc
        simp only [Bool.and_eq_true] at hc
        have ho := Nat.eq_of_beq_eq_true hc.1
        have hw := Nat.eq_of_beq_eq_true hc.2
        simp only [Option.map_eq_some_iff] at h
        obtain ⟨l2, h2, rfl⟩ := h
        obtain ⟨y, hy, hyl⟩ := hx 0 f rfl
        have a1 := hr _ _ _ _ hf hy hyl
        rw [ho, hw] at a1
        have a2 := fields_rd (cs := cs) (xs := xs) fs (i + 1) (o + widths l1) l2 h2 (fun j f' hj => hx (j + 1) f' (by simpa using hj)) hr
        have hwid : widths (l1 ++ l2) = widths l1 + widths l2 := widths_app l1 l2
        rw [hwid, List.take_add, List.drop_drop]
        exact a1.app a2
      · cases h
    · cases h
theorem times_rd {l : List K1} {cs : List Value} {z : Nat} (hz : z = widths l) : ∀ (n o : Nat), (∀ i, i < n → RdG w l ((cs.drop (o + i * z)).take z)) → RdG w (timesK l n) ((cs.drop o).take (n * z))
  | 0, o, _ => by show List.take _ _ = []; simp
  | n + 1, o, h => by
    have h0 := h 0 (by omega)
    rw [Nat.zero_mul, Nat.add_zero] at h0
    have h1 := times_rd hz n (o + z) fun i hi => by
      have := h (i + 1) (by omega)
      rw [Nat.succ_mul] at this
      rw [show o + z + i * z = o + (i * z + z) by omega]; exact this
    rw [show (n + 1) * z = z + n * z by rw [Nat.succ_mul]; omega, List.take_add, List.drop_drop]
    exact h0.app h1
theorem RdG.one {k : K1} {xs : List Value} (h : Rd1 w k xs) (hw : xs.length = k.w) : RdG w [k] xs := ⟨xs, [], by simp, hw, h, rfl⟩
theorem trod_rd : ∀ (d : Nat) (t : TypeId) (l : List K1) (m : Nat) (cs : List Value) (x : DataW H × List MemPlace), kindsT P d t = some l → DataW.trod enc P w 0 (fun _ => true) true m t cs = some x → light (x.1.weights P t) → RdG w l cs
  | 0, _, _, _, _, _, h, _, _ => by cases h
  | d + 1, t, l, m, cs, x, h, ht, hl => by
    have ih := trod_rd d
    unfold kindsT at h
    split at h
    · rename_i k hu
      cases h
      obtain ⟨n, rfl, _, hw⟩ := DataW.trod_int hu ht
      exact RdG.one ⟨_, rfl, n, rfl, has_of_wf hw⟩ rfl
    · rename_i hu
      cases h
      obtain ⟨b, rfl, _⟩ := DataW.trod_bool hu ht
      exact RdG.one ⟨b, rfl⟩ rfl
    · rename_i hu
      cases h
      obtain ⟨s, rfl, rfl, _⟩ := DataW.trod_string hu ht
      refine RdG.one ⟨s, rfl, ?_⟩ rfl
      have := hl s.data.toList.length (by simp [DataW.weights])
      simpa using this
    · rename_i fs hu
      split at h
      · rename_i l' hf
        split at h
        · rename_i hw
          obtain rfl := Option.some.inj h
          obtain ⟨xs, n, rfl, rfl, hlen, hxl, hx⟩ := DataW.trod_struct hu ht
          have hwt : light (DataW.weightsEach P (fs.toList.map (·.type)) (xs.map (·.1))) := by
            have : (DataW.agg (xs.map (·.1))).weights P t = DataW.weightsEach P (fs.toList.map (·.type)) (xs.map (·.1)) := by rw [DataW.weights, hu]
            rw [← this]; exact hl
          have := fields_rd (enc := enc) (cs := cs) (n := n) (xs := xs) fs.toList 0 0 _ hf (fun j f hj => by
            have h1 := hx j f (by simpa using hj)
            have hj' : j < xs.length := by rw [hxl]; have := (List.getElem?_eq_some_iff.1 hj).1; simpa using this
            refine ⟨xs[j], by rw [h1]; simp [hj'], light_each hwt j _ _ (by simp [hj]) (by simp [hj'])⟩) fun t' l'' cs' y hk hy hyl => ih t' l'' n cs' y hk hy hyl
          rw [List.drop_zero, List.take_of_length_le (by rw [hlen, Nat.eq_of_beq_eq_true hw]; exact Nat.le_refl _)] at this
          exact this
        · cases h
      · cases h
    · rename_i n e hu
      obtain ⟨xs, m', rfl, rfl, hlen, hxl, hx⟩ := DataW.trod_array hu ht
      have hwt : light (DataW.weightsAll P e (xs.map (·.1))) := by
        have : (DataW.agg (xs.map (·.1))).weights P t = DataW.weightsAll P e (xs.map (·.1)) := by rw [DataW.weights, hu]
        rw [← this]; exact hl
      have each : ∀ l', kindsT P d e = some l' → ∀ i, i < n → RdG w l' ((cs.drop (i * P.cellsOf e)).take (P.cellsOf e)) := fun l' hk i hi => by
        have h1 := hx i hi
        exact ih _ _ _ _ xs[i] hk (by rw [h1]; simp [hxl, hi]) (light_all hwt _ (List.mem_map.2 ⟨_, List.getElem_mem _, rfl⟩))
      split at h
      · rename_i hk
        split at h
        · rename_i hc
          cases h
          simp only [Bool.and_eq_true] at hc
          have hc1 := Nat.eq_of_beq_eq_true hc.1
          have hc2 := Nat.eq_of_beq_eq_true hc.2
          refine RdG.one ⟨by rw [hlen, hc1], fun v hv => ?_⟩ (by rw [hlen, hc1]; rfl)
          obtain ⟨i, hi, rfl⟩ := List.getElem_of_mem hv
          have h1 := each _ hk i (by omega)
          rw [hc2, Nat.mul_one] at h1
          obtain ⟨a, b, e1, _, ⟨u, rfl, hu'⟩, e2⟩ := h1
          have e2 : b = [] := e2
          subst e2
          have : (List.drop i cs).take 1 = [cs[i]] := by
            rw [List.drop_eq_getElem_cons hi]; rfl
          rw [this] at e1
          cases e1; exact hu'
        · cases h
      · rename_i l' _ hk
        split at h
        · rename_i hc
          cases h
          simp only [Bool.and_eq_true] at hc
          have hc1 := Nat.eq_of_beq_eq_true hc.1
          have hc2 := Nat.eq_of_beq_eq_true hc.2
          have := times_rd (w := w) (cs := cs) hc1 n 0 fun i hi => by rw [Nat.zero_add]; exact each _ hk i hi
          have hwt' : ∀ n, widths (timesK l' n) = n * widths l' := by
            intro n
            induction n with
            | zero => simp [timesK, widths]
            | succ n ih =>
              rw [timesK, widths_app, ih, Nat.succ_mul]; omega
          rw [List.drop_zero, List.take_of_length_le (by rw [hlen, hc2, hwt', hc1]; exact Nat.le_refl _)] at this
          exact this
        · cases h
      · cases h
    · rename_i e hu
      split at h
      · rename_i l' hk
        split at h
        · rename_i ks hks
          split at h
          · rename_i hc
            cases h
            simp only [Bool.and_eq_true] at hc
            have hc1 := Nat.eq_of_beq_eq_true hc.1.1
            obtain ⟨v, rfl, hv⟩ := trod_slice_rd (p := fun r => Al (Rd0 w) ks r) hu hc1 (by have h1 := Nat.le_of_ble_eq_true hc.1.2; omega) (by have h1 := Nat.le_of_ble_eq_true hc.2; omega) ht hl fun n r y hy hyl _ => kinds0_ok hks (ih _ _ _ _ _ hk hy hyl)
            exact RdG.one ⟨fun hn => by have h1 := Nat.le_of_ble_eq_true hc.1.2; rw [hn] at h1; simp at h1, v, rfl, hv⟩ rfl
          · cases h
        · cases h
      · cases h
    · cases h
end
end Go.Proofs.Ytgpoomoifgfajaa.E
/- A law's arguments, opened: letters. Plain Lean over the kit's model; no program. -/
namespace Go.Proofs.Ytgpoomoifgfajaa.E
open Go Go.RowKit
set_option linter.unusedVariables false
def ivalOf : Value → Int
  | .int _ n => n
  | _ => 0
def bvalOf : Value → Bool
  | .bool b => b
  | _ => false
def svalOf : Value → List Int
  | .string s => s.data.toList.map fun b => (b.toNat : Int)
  | _ => []
def flatOf (w : World) (z : Nat) : Value → List Int
  | .slice (some a) len _ => match w.heap[a.block]? with
    | some (.cells cs _ _) => ((cs.toList.drop a.off).take (len * z)).map ivalOf
    | _ => []
  | _ => []
def fzOf (w : World) : Nat → Option (Array Value) := fun b => match w.heap[b]? with | some (.cells cur _ _) => some cur | _ => none
theorem RdI.ival {k : IntKind} {v : Value} (h : RdI k v) : v = .int k (ivalOf v) ∧ k.has (ivalOf v) := by
  obtain ⟨n, rfl, h⟩ := h; exact ⟨rfl, h⟩
theorem ints_ival {k : IntKind} {r : List Value} (h : ∀ x ∈ r, RdI k x) : r = (r.map ivalOf).map (.int k) := by
  rw [List.map_map]
  conv => lhs; rw [← List.map_id r]
  exact List.map_congr_left fun x hx => by
    obtain ⟨n, e, _⟩ := h x hx
    subst e; rfl
theorem flat_len {z : Nat} {rows : List (List Value)} (h : ∀ r ∈ rows, r.length = z) : rows.flatten.length = rows.length * z := by
  induction rows with
  | nil => simp
  | cons r rows ih =>
    rw [List.flatten_cons, List.length_append, h r (by simp), ih fun r hr => h r (by simp [hr]), List.length_cons, Nat.succ_mul]; omega
theorem flat_row {z : Nat} : ∀ {rows : List (List Value)} (h : ∀ r ∈ rows, r.length = z) (i : Nat), i < rows.length → (rows.flatten.drop (i * z)).take z = rows.getD i []
  | [], _, i, hi => by simp at hi
  | r :: rows, h, 0, _ => by
    have := h r (by simp)
    rw [List.flatten_cons, Nat.zero_mul, List.drop_zero, List.take_append_of_le_length (by omega), List.take_of_length_le (by omega)]; rfl
  | r :: rows, h, i + 1, hi => by
    have hr := h r (by simp)
    have hz : (i + 1) * z = i * z + z := Nat.succ_mul i z
    rw [List.flatten_cons, List.drop_append, List.drop_of_length_le (by omega), List.nil_append, show (i + 1) * z - r.length = i * z by omega]
    exact flat_row (fun r hr => h r (by simp [hr])) i (by simpa using hi)
section
variable {w : World} {γ : Gm}
/-- a slice whose rows are known. -/
theorem RdS.fs {z : Nat} {p : List Value → Prop} {v : Value} (h : RdS w z p v) : ∃ rows : List (List Value), (∀ r ∈ rows, r.length = z ∧ p r) ∧ rows.length ≤ reachBytes ∧ flatOf w z v = rows.flatten.map ivalOf ∧ ∀ γ : Gm, γ.fz = fzOf w → ∀ r : Row, Fr r γ rows.flatten → F1 (.fs z r) γ v := by
  obtain ⟨a, len, cap, rows, rfl, h2, h3, h4, h5, h6⟩ := h
  have hfl : rows.flatten.length = len * z := by rw [flat_len fun r hr => (h5 r hr).1, h4]
  refine ⟨rows, h5, by omega, ?_, fun γ hγ r hr => ?_⟩
  · rcases h6 with ⟨h0, _⟩ | ⟨b, d, rfl, h0 | ⟨cs, e, f, hb, hc⟩⟩
    · have : rows = [] := List.eq_nil_of_length_eq_zero (by omega)
      subst this; subst h0
      cases a with
      | none => rfl
      | some a =>
        simp only [flatOf]
        split <;> simp
    · have : rows = [] := List.eq_nil_of_length_eq_zero (by omega)
      subst this; subst h0
      simp only [flatOf]
      split <;> simp
    · simp only [flatOf, hb, hc]
  · simp only [F1]
    refine ⟨rows.flatten, len, cap, a, rfl, hfl.symm, h2, hr, ?_⟩
    rcases h6 with h0 | ⟨b, d, rfl, h0 | ⟨cs, e, f, hb, hc⟩⟩
    · exact .inl h0
    · exact .inr ⟨b, d, rfl, .inl h0⟩
    · exact .inr ⟨b, d, rfl, .inr ⟨cs, by rw [hγ]; simp [fzOf, hb], by rw [hfl]; exact hc⟩⟩
theorem RdS.ints {z : Nat} {k : IntKind} {v : Value} (h : RdS w z (fun r => ∀ x ∈ r, RdI k x) v) (hγ : γ.fz = fzOf w) (l : L) (hl : l.den γ.env = flatOf w z v) : F1 (.fs z (.ints k l)) γ v ∧ (∀ x ∈ flatOf w z v, k.has x) ∧ ∃ m, m ≤ reachBytes ∧ (flatOf w z v).length = m * z := by
  obtain ⟨rows, h5, hm, hf, hF⟩ := h.fs
  have hall : ∀ x ∈ rows.flatten, RdI k x := fun x hx => by
    obtain ⟨r, hr, hx⟩ := List.mem_flatten.1 hx
    exact (h5 r hr).2 x hx
  refine ⟨hF γ hγ _ ?_, fun x hx => ?_, rows.length, hm, ?_⟩
  · simp only [Fr]; rw [hl, hf]; exact ints_ival hall
  · rw [hf] at hx
    obtain ⟨y, hy, rfl⟩ := List.mem_map.1 hx
    exact (hall y hy).ival.2
  · rw [hf, List.length_map, flat_len fun r hr => (h5 r hr).1]

/-! ### records -/
def numsOfR : List K0 → List Value → List Int
  | .int _ :: ks, v :: vs => ivalOf v :: numsOfR ks vs
  | .ints _ _ :: ks, _ :: vs => numsOfR ks vs
  | _, _ => []
def slsOf (w : World) : List K0 → List Value → List (List Int)
  | .int _ :: ks, _ :: vs => slsOf w ks vs
  | .ints z _ :: ks, v :: vs => flatOf w z v :: slsOf w ks vs
  | _, _ => []
def hasI : List K0 → Bool
  | [] => false
  | .int _ :: _ => true
  | _ :: ks => hasI ks
def cntS : List K0 → Nat
  | [] => 0
  | .int _ :: ks => cntS ks
  | _ :: ks => cntS ks + 1
def patR (li : Nat) : List K0 → Nat → Nat → List V
  | [], _, _ => []
  | .int k :: ks, j, s => .int k (.get (.at (.var li) .ix) (.lit (.ofNat j))) :: patR li ks (j + 1) s
  | .ints z k :: ks, j, s => .fs z (.ints k (.at (.var s) .ix)) :: patR li ks j (s + 1)
/-- a record's numbers. -/
def factI : List K0 → List Int → Prop
  | [], r => r = []
  | .int k :: ks, r => ∃ x t, r = x :: t ∧ k.has x ∧ factI ks t
  | .ints _ _ :: ks, r => factI ks r
def factS : List K0 → List (List Int) → Prop
  | [], r => r = []
  | .int _ :: ks, r => factS ks r
  | .ints z k :: ks, r => ∃ x t, r = x :: t ∧ ((∀ y ∈ x, k.has y) ∧ ∃ m, m ≤ reachBytes ∧ x.length = m * z) ∧ factS ks t
theorem rec_ok {li : Nat} (hγ : γ.fz = fzOf w) (i : Nat) : ∀ (ks : List K0) (r : List Value) (j s : Nat), Al (Rd0 w) ks r → (∀ q, q < (numsOfR ks r).length → ((γ.env.ll li).getD i []).getD (j + q) 0 = (numsOfR ks r).getD q 0) →
    (∀ q, q < cntS ks → (γ.env.ll (s + q)).getD i [] = (slsOf w ks r).getD q []) → Fs (patR li ks j s) (γ.at i) r ∧ factI ks (numsOfR ks r) ∧ factS ks (slsOf w ks r)
  | [], [], _, _, _, _, _ => ⟨by unfold patR Fs; trivial, rfl, rfl⟩
  | [], _ :: _, _, _, h, _, _ => by cases h
  | _ :: _, [], _, _, h, _, _ => by cases h
  | .int k :: ks, v :: r, j, s, ⟨h1, h2⟩, hI, hS => by
    have h1 : RdI k v := h1
    obtain ⟨e1, e2⟩ := h1.ival
    obtain ⟨a1, a2, a3⟩ := rec_ok hγ i ks r (j + 1) s h2 (fun q hq => by
      have := hI (q + 1) (by simp only [numsOfR, List.length_cons]; omega)
      rw [show j + 1 + q = j + (q + 1) by omega, this]; simp [numsOfR]) hS
    refine ⟨?_, ⟨_, _, rfl, e2, a2⟩, a3⟩
    unfold patR Fs
    refine ⟨?_, a1⟩
    simp only [F1]
    have := hI 0 (by simp [numsOfR])
    simp only [numsOfR, List.getD_cons_zero, Nat.add_zero] at this
    have hden : (E.get (.at (.var li) .ix) (.lit (.ofNat j))).den (γ.at i).env = ((γ.env.ll li).getD i []).getD j 0 := by
      simp [E.den, L.den, LL.den, Gm.at, Env.at]
    rw [hden, this]; exact e1
  | .ints z k :: ks, v :: r, j, s, ⟨h1, h2⟩, hI, hS => by
    have h1 : RdS w z (fun r => ∀ x ∈ r, RdI k x) v := h1
    obtain ⟨a1, a2, a3⟩ := rec_ok hγ i ks r j (s + 1) h2 hI (fun q hq => by
      have := hS (q + 1) (by simp only [cntS]; omega)
      rw [show s + 1 + q = s + (q + 1) by omega, this]; simp [slsOf])
    have hs := hS 0 (by simp only [cntS]; omega)
    simp only [slsOf, List.getD_cons_zero, Nat.add_zero] at hs
    have hfz : (γ.at i).fz = fzOf w := hγ
    obtain ⟨b1, b2, b3⟩ := h1.ints hfz (.at (.var s) .ix) (by simp [L.den, LL.den, E.den, Gm.at, Env.at, ← hs])
    refine ⟨?_, a2, ⟨_, _, rfl, ⟨b2, b3⟩, a3⟩⟩
    unfold patR Fs
    exact ⟨b1, a1⟩
end

/-! ### letters -/
structure Cn where
  e : Nat
  l : Nat
  ll : Nat
  b : Nat
def cn0 : Cn := ⟨0, 0, 0, 0⟩
def usesLL (ks : List K0) : Nat := (bif hasI ks then 1 else 0) + cntS ks
def pat1 (k : K1) (c : Cn) : List V × Cn := match k with
  | .int k => ([.int k (.var c.e)], { c with e := c.e + 1 })
  | .bool => ([.bool (.var c.b)], { c with b := c.b + 1 })
  | .str => ([.str (.var c.l)], { c with l := c.l + 1 })
  | .bytes n => ((List.range n).map (fun i => .int .u8 (.get (.var c.l) (.lit (.ofNat i)))), { c with l := c.l + 1 })
  | .sl [.int k] => ([.fs 1 (.ints k (.var c.l))], { c with l := c.l + 1 })
  | .sl ks => ([.fs ks.length (.recs ks.length (.cnt (.var c.ll)) (patR c.ll ks 0 (c.ll + bif hasI ks then 1 else 0)))], { c with ll := c.ll + usesLL ks })
def pats : List K1 → Cn → List V × Cn
  | [], c => ([], c)
  | k :: l, c => let a := pat1 k c; let b := pats l a.2; (a.1 ++ b.1, b.2)
/-- what is known of the letters. -/
def fact1 (k : K1) (c : Cn) (ρ : Env) : Prop := match k with
  | .int k => k.has (ρ.e c.e)
  | .bool => True
  | .str => (ρ.l c.l).length ≤ reachBytes ∧ ∀ x ∈ ρ.l c.l, IntKind.u8.has x
  | .bytes n => (ρ.l c.l).length = n ∧ ∀ x ∈ ρ.l c.l, IntKind.u8.has x
  | .sl [.int k] => (ρ.l c.l).length ≤ reachBytes ∧ ∀ x ∈ ρ.l c.l, k.has x
  | .sl ks => (ρ.ll c.ll).length ≤ reachBytes ∧ (∀ q, q < usesLL ks → (ρ.ll (c.ll + q)).length = (ρ.ll c.ll).length) ∧ (hasI ks = true → ∀ r ∈ ρ.ll c.ll, factI ks r) ∧
    ∀ i, i < (ρ.ll c.ll).length → factS ks ((List.range (cntS ks)).map fun q => (ρ.ll (c.ll + (bif hasI ks then 1 else 0) + q)).getD i [])
def facts : List K1 → Cn → Env → Prop
  | [], _, _ => True
  | k :: l, c, ρ => fact1 k c ρ ∧ facts l (pat1 k c).2 ρ
structure Lt where
  e : List Int
  l : List (List Int)
  ll : List (List (List Int))
  b : List Bool
def lt0 : Lt := ⟨[], [], [], []⟩
def Lt.cn (x : Lt) : Cn := ⟨x.e.length, x.l.length, x.ll.length, x.b.length⟩
def Lt.env (x : Lt) : Env := ⟨fun i => x.e.getD i 0, fun i => x.l.getD i [], fun i => x.ll.getD i [], fun i => x.b.getD i false, 0⟩
structure Agr (x : Lt) (ρ : Env) : Prop where
  e : ∀ i, i < x.e.length → ρ.e i = x.e.getD i 0
  l : ∀ i, i < x.l.length → ρ.l i = x.l.getD i []
  ll : ∀ i, i < x.ll.length → ρ.ll i = x.ll.getD i []
  b : ∀ i, i < x.b.length → ρ.b i = x.b.getD i false
theorem Lt.env_agr (x : Lt) : Agr x x.env := ⟨fun _ _ => rfl, fun _ _ => rfl, fun _ _ => rfl, fun _ _ => rfl⟩
def Lt.le (x y : Lt) : Prop := x.e <+: y.e ∧ x.l <+: y.l ∧ x.ll <+: y.ll ∧ x.b <+: y.b
theorem pre_get {α : Type} {d : α} {a b : List α} (h : a <+: b) {i : Nat} (hi : i < a.length) : b.getD i d = a.getD i d := by
  obtain ⟨t, rfl⟩ := h
  simp only [List.getD, List.getElem?_append_left hi]
theorem Lt.le.agr {x y : Lt} (h : x.le y) {ρ : Env} (ha : Agr y ρ) : Agr x ρ := by
  obtain ⟨h1, h2, h3, h4⟩ := h
  exact ⟨fun i hi => by rw [ha.e i (Nat.lt_of_lt_of_le hi h1.length_le), pre_get h1 hi], fun i hi => by rw [ha.l i (Nat.lt_of_lt_of_le hi h2.length_le), pre_get h2 hi], fun i hi => by rw [ha.ll i (Nat.lt_of_lt_of_le hi h3.length_le), pre_get h3 hi], fun i hi => by rw [ha.b i (Nat.lt_of_lt_of_le hi h4.length_le), pre_get h4 hi]⟩
theorem Lt.le.refl (x : Lt) : x.le x := ⟨List.prefix_refl _, List.prefix_refl _, List.prefix_refl _, List.prefix_refl _⟩
theorem Lt.le.trans {x y z : Lt} (h : x.le y) (k : y.le z) : x.le z := ⟨h.1.trans k.1, h.2.1.trans k.2.1, h.2.2.1.trans k.2.2.1, h.2.2.2.trans k.2.2.2⟩
theorem getD_last {α : Type} {d a : α} (l : List α) : (l ++ [a]).getD l.length d = a := by simp [List.getD]
theorem str_ival (s : ByteArray) : strOf (svalOf (.string s)) = s := by
  cases s with
  | mk d =>
    simp only [svalOf, strOf, List.map_map]
    congr 1
    apply Array.ext'
    conv => rhs; rw [← List.map_id d.toList]
    simp only [Function.comp_def]
    exact List.map_congr_left fun x _ => by simp
theorem slsOf_len {w : World} : ∀ {ks : List K0} {r : List Value}, Al (Rd0 w) ks r → (slsOf w ks r).length = cntS ks
  | [], [], _ => rfl
  | [], _ :: _, h => by cases h
  | _ :: _, [], h => by cases h
  | .int k :: ks, v :: r, h => slsOf_len (ks := ks) h.2
  | .ints z k :: ks, v :: r, h => by simp only [slsOf, cntS, List.length_cons, slsOf_len (ks := ks) h.2]
theorem range_getD {α : Type} {d : α} (l : List α) (n : Nat) (h : l.length = n) : (List.range n).map (fun q => l.getD q d) = l := by
  apply List.ext_getElem?
  intro i
  by_cases hi : i < n
  · simp [hi, List.getD, show i < l.length by omega]
  · simp [hi, show l.length ≤ i by omega]
theorem getD_map_lt {α β : Type} {d : α} {e : β} (l : List α) (f : α → β) (i : Nat) (h : i < l.length) : (l.map f).getD i e = f (l.getD i d) := by
  simp [List.getD, h]
theorem numsOfR_nil : ∀ {ks : List K0} {r : List Value}, hasI ks = false → numsOfR ks r = []
  | [], r, _ => by cases r <;> rfl
  | .int k :: ks, r, h => by simp [hasI] at h
  | .ints z k :: ks, [], h => rfl
  | .ints z k :: ks, v :: r, h => numsOfR_nil (ks := ks) h
theorem letter1 {w : World} (k : K1) (xs : List Value) (x : Lt) (h : Rd1 w k xs) : ∃ y : Lt, x.le y ∧ y.cn = (pat1 k x.cn).2 ∧ ∀ γ : Gm, γ.fz = fzOf w → Agr y γ.env → F2 (fun v x => F1 v γ x) (pat1 k x.cn).1 xs ∧ fact1 k x.cn γ.env := by
  have recs : ∀ ks : List K0, (ks ≠ [] ∧ ∃ v, xs = [v] ∧ RdS w ks.length (fun r => Al (Rd0 w) ks r) v) → ∃ y : Lt, x.le y ∧ y.cn = { x.cn with ll := x.cn.ll + usesLL ks } ∧ ∀ γ : Gm, γ.fz = fzOf w → Agr y γ.env →
      F2 (fun v x => F1 v γ x) [V.fs ks.length (.recs ks.length (.cnt (.var x.cn.ll)) (patR x.cn.ll ks 0 (x.cn.ll + bif hasI ks then 1 else 0)))] xs ∧
      ((γ.env.ll x.cn.ll).length ≤ reachBytes ∧ (∀ q, q < usesLL ks → (γ.env.ll (x.cn.ll + q)).length = (γ.env.ll x.cn.ll).length) ∧ (hasI ks = true → ∀ r ∈ γ.env.ll x.cn.ll, factI ks r) ∧
    ∀ i, i < (γ.env.ll x.cn.ll).length → factS ks ((List.range (cntS ks)).map fun q => (γ.env.ll (x.cn.ll + (bif hasI ks then 1 else 0) + q)).getD i [])) := by
    intro ks ⟨hne, v, e, hv⟩
    subst e
    obtain ⟨rows, h5, hm, _, hF⟩ := hv.fs
    have hb : ∃ hb : Nat, (bif hasI ks then 1 else 0) = hb ∧ usesLL ks = hb + cntS ks := ⟨_, rfl, rfl⟩
    obtain ⟨hb, e1, e2⟩ := hb
    rw [e1]
    have hpos : 0 < usesLL ks := by
      cases ks with
      | nil => exact (hne rfl).elim
      | cons q ks => cases q <;> simp [usesLL, hasI, cntS] <;> omega
    let new : List (List (List Int)) := (bif hasI ks then [rows.map (numsOfR ks)] else []) ++ (List.range (cntS ks)).map fun q => rows.map fun r => (slsOf w ks r).getD q []
    have hhb : (bif hasI ks then [rows.map (numsOfR ks)] else [] : List (List (List Int))).length = hb := by rw [← e1]; cases hasI ks <;> rfl
    have hnl : new.length = usesLL ks := by simp only [new, List.length_append, hhb, List.length_map, List.length_range, e2]
    have hnS : ∀ q, q < cntS ks → new.getD (hb + q) [] = rows.map fun r => (slsOf w ks r).getD q [] := fun q hq => by
      simp only [new, List.getD]
      rw [List.getElem?_append_right (by omega), hhb, show hb + q - hb = q by omega]
      simp [hq]
    have hnI : hasI ks = true → new.getD 0 [] = rows.map (numsOfR ks) := fun hh => by simp [new, hh]
    have hnlen : ∀ q, q < usesLL ks → (new.getD q []).length = rows.length := fun q hq => by
      by_cases h : q < hb
      · have hh : hasI ks = true := by
          cases hh : hasI ks with
          | true => rfl
          | false => rw [hh] at e1; simp at e1; omega
        rw [hh] at e1
        simp at e1
        obtain rfl : q = 0 := by omega
        rw [hnI hh, List.length_map]
      · have := hnS (q - hb) (by omega)
        rw [show hb + (q - hb) = q by omega] at this
        rw [this, List.length_map]
    refine ⟨{ x with ll := x.ll ++ new }, ⟨List.prefix_refl _, List.prefix_refl _, List.prefix_append _ _, List.prefix_refl _⟩, by simp [Lt.cn, hnl], fun γ hγ ha => ?_⟩
    have hll : ∀ q, q < usesLL ks → γ.env.ll (x.ll.length + q) = new.getD q [] := fun q hq => by
      rw [ha.ll _ (by simp; omega)]
      simp only [List.getD]
      rw [List.getElem?_append_right (by omega), show x.ll.length + q - x.ll.length = q by omega]
    have h0 := hll 0 hpos
    rw [Nat.add_zero] at h0
    have hl0 : (γ.env.ll x.ll.length).length = rows.length := by rw [h0]; exact hnlen 0 hpos
    have each : ∀ i, i < rows.length → Fs (patR x.ll.length ks 0 (x.ll.length + hb)) (γ.at i) (rows.getD i []) ∧ factI ks (numsOfR ks (rows.getD i [])) ∧ factS ks (slsOf w ks (rows.getD i [])) := fun i hi => by
      have hr : rows.getD i [] ∈ rows := by rw [List.getD, List.getElem?_eq_getElem hi]; exact List.getElem_mem hi
      refine rec_ok hγ i ks _ 0 _ (h5 _ hr).2 (fun q hq => ?_) fun q hq => ?_
      · cases hh : hasI ks with
        | false => rw [numsOfR_nil hh] at hq; simp at hq
        | true => rw [h0, hnI hh, getD_map_lt (d := []) rows _ i hi, Nat.zero_add]
      · rw [Nat.add_assoc, hll _ (by omega), hnS q hq, getD_map_lt (d := []) rows _ i hi]
    refine ⟨⟨hF γ hγ _ ?_, trivial⟩, ?_, ?_, ?_, ?_⟩
    · simp only [Fr, E.den, LL.den, Lt.cn]
      rw [hl0]
      refine ⟨by omega, by rw [flat_len fun r hr => (h5 r hr).1]; simp, fun i hi => ?_⟩
      have hi : i < rows.length := by simpa using hi
      rw [flat_row (fun r hr => (h5 r hr).1) i hi]
      exact (each i hi).1
    · show (γ.env.ll x.ll.length).length ≤ _; omega
    · intro q hq
      show (γ.env.ll (x.ll.length + q)).length = (γ.env.ll x.ll.length).length
      rw [hll q hq, hnlen q hq, hl0]
    · intro hh r hr
      have hr : r ∈ γ.env.ll x.ll.length := hr
      rw [h0, hnI hh] at hr
      obtain ⟨r0, hr0, rfl⟩ := List.mem_map.1 hr
      obtain ⟨i, hi, rfl⟩ := List.getElem_of_mem hr0
      have := (each i hi).2.1
      rwa [List.getD, List.getElem?_eq_getElem hi] at this
    · intro i hi
      have hi : i < rows.length := by rw [← hl0]; exact hi
      have h6 : (List.range (cntS ks)).map (fun q => (γ.env.ll (x.ll.length + hb + q)).getD i []) = slsOf w ks (rows.getD i []) := by
        have hr : rows.getD i [] ∈ rows := by rw [List.getD, List.getElem?_eq_getElem hi]; exact List.getElem_mem hi
        rw [← range_getD (d := []) (slsOf w ks (rows.getD i [])) (cntS ks) (slsOf_len (h5 _ hr).2)]
        refine List.map_congr_left fun q hq => ?_
        have hq : q < cntS ks := by simpa using hq
        rw [Nat.add_assoc, hll _ (by omega), hnS q hq, getD_map_lt (d := []) rows _ i hi]
      show factS ks ((List.range (cntS ks)).map (fun q => (γ.env.ll (x.ll.length + hb + q)).getD i []))
      rw [h6]; exact (each i hi).2.2
  match k, h with
  | .int k, ⟨v, e, hv⟩ =>
    subst e
    refine ⟨{ x with e := x.e ++ [ivalOf v] }, ⟨List.prefix_append _ _, List.prefix_refl _, List.prefix_refl _, List.prefix_refl _⟩, by simp [Lt.cn, pat1], fun γ hγ ha => ?_⟩
    have he : γ.env.e x.e.length = ivalOf v := by rw [ha.e _ (by simp)]; exact getD_last _
    obtain ⟨h1, h2⟩ := hv.ival
    exact ⟨⟨by simp only [F1, E.den, Lt.cn]; rw [he]; exact h1, trivial⟩, by show k.has (γ.env.e x.e.length); rw [he]; exact h2⟩
  | .bool, ⟨b, e⟩ =>
    subst e
    refine ⟨{ x with b := x.b ++ [b] }, ⟨List.prefix_refl _, List.prefix_refl _, List.prefix_refl _, List.prefix_append _ _⟩, by simp [Lt.cn, pat1], fun γ hγ ha => ?_⟩
    have he : γ.env.b x.b.length = b := by rw [ha.b _ (by simp)]; exact getD_last _
    exact ⟨⟨by simp only [F1, B.den, Lt.cn]; rw [he], trivial⟩, trivial⟩
  | .str, ⟨s, e, hs⟩ =>
    subst e
    refine ⟨{ x with l := x.l ++ [svalOf (.string s)] }, ⟨List.prefix_refl _, List.prefix_append _ _, List.prefix_refl _, List.prefix_refl _⟩, by simp [Lt.cn, pat1], fun γ hγ ha => ?_⟩
    have he : γ.env.l x.l.length = svalOf (.string s) := by rw [ha.l _ (by simp)]; exact getD_last _
    refine ⟨⟨by simp only [F1, L.den, Lt.cn]; rw [he, str_ival], trivial⟩, ?_, ?_⟩
    · show (γ.env.l x.l.length).length ≤ _
      rw [he]; simpa [svalOf] using hs
    · show ∀ y ∈ γ.env.l x.l.length, _
      rw [he]
      intro y hy
      obtain ⟨b, _, rfl⟩ := List.mem_map.1 hy
      have := b.toNat_lt
      exact ⟨by show (0 : Int) ≤ _; omega, by show (_ : Int) ≤ 255; omega⟩
  | .bytes n, ⟨hn, hall⟩ =>
    refine ⟨{ x with l := x.l ++ [xs.map ivalOf] }, ⟨List.prefix_refl _, List.prefix_append _ _, List.prefix_refl _, List.prefix_refl _⟩, by simp [Lt.cn, pat1], fun γ hγ ha => ?_⟩
    have he : γ.env.l x.l.length = xs.map ivalOf := by rw [ha.l _ (by simp)]; exact getD_last _
    refine ⟨?_, ?_, ?_⟩
    · refine F2.of_get (by simp [pat1, hn]) fun i v y hv hy => ?_
      have hi : i < xs.length := (List.getElem?_eq_some_iff.1 hy).1
      simp only [pat1, List.getElem?_map, List.getElem?_range (by omega : i < n), Option.map_some, Option.some.injEq] at hv
      subst hv
      have hd : (E.get (.var x.l.length) (.lit (.ofNat i))).den γ.env = ivalOf y := by
        simp only [E.den, L.den, he]
        simp [List.getD, hy]
      simp only [F1, Lt.cn]
      rw [hd]
      exact (hall y (List.mem_of_getElem? hy)).ival.1
    · show (γ.env.l x.l.length).length = n
      rw [he, List.length_map, hn]
    · show ∀ y ∈ γ.env.l x.l.length, _
      rw [he]
      intro y hy
      obtain ⟨v, hv, rfl⟩ := List.mem_map.1 hy
      exact (hall v hv).ival.2
  | .sl [.int k], ⟨_, v, e, hv⟩ =>
    subst e
    have hv' : RdS w 1 (fun r => ∀ x ∈ r, RdI k x) v := hv.mono fun r _ hr => Al.ints (ks := [.int k]) (by simp) hr
    refine ⟨{ x with l := x.l ++ [flatOf w 1 v] }, ⟨List.prefix_refl _, List.prefix_append _ _, List.prefix_refl _, List.prefix_refl _⟩, by simp [Lt.cn, pat1], fun γ hγ ha => ?_⟩
    have he : γ.env.l x.l.length = flatOf w 1 v := by rw [ha.l _ (by simp)]; exact getD_last _
    obtain ⟨b1, b2, m, hm, b3⟩ := hv'.ints hγ (.var x.l.length) (by simpa [L.den] using he)
    exact ⟨⟨b1, trivial⟩, by show (γ.env.l x.l.length).length ≤ _; rw [he, b3]; omega, by show ∀ y ∈ γ.env.l x.l.length, _; rw [he]; exact b2⟩
  | .sl [], h => exact recs [] h
  | .sl [.ints z k], h => exact recs [.ints z k] h
  | .sl (a :: b :: ks), h =>
    have := recs (a :: b :: ks) h
    cases a <;> exact this
theorem F2.app1 {r : V → Value → Prop} {as bs : List V} {xs ys : List Value} (h : F2 r as xs) (h' : F2 r bs ys) : F2 r (as ++ bs) (xs ++ ys) := F2.app h h'
theorem letters {w : World} : ∀ (ks : List K1) (xs : List Value) (x : Lt), RdG w ks xs → ∃ y : Lt, x.le y ∧ y.cn = (pats ks x.cn).2 ∧ ∀ γ : Gm, γ.fz = fzOf w → Agr y γ.env → F2 (fun v x => F1 v γ x) (pats ks x.cn).1 xs ∧ facts ks x.cn γ.env
  | [], xs, x, h => by
    have h : xs = [] := h
    subst h
    exact ⟨x, Lt.le.refl x, rfl, fun γ _ _ => ⟨trivial, trivial⟩⟩
  | k :: ks, xs, x, ⟨a, b, e, _, h1, h2⟩ => by
    subst e
    obtain ⟨y, y1, y2, y3⟩ := letter1 k a x h1
    obtain ⟨z, z1, z2, z3⟩ := letters ks b y h2
    rw [y2] at z2 z3
    refine ⟨z, y1.trans z1, z2, fun γ hγ ha => ?_⟩
    obtain ⟨c1, c2⟩ := y3 γ hγ (z1.agr ha)
    obtain ⟨d1, d2⟩ := z3 γ hγ ha
    exact ⟨F2.app c1 d1, c2, d2⟩

/-! ### arguments -/
def isAgT (P : Program) (t : TypeId) : Bool := match P.underlying t with
  | some (.struct _) | some (.array _ _) => true
  | _ => false
def patA (P : Program) (t : TypeId) (ks : List K1) (c : Cn) : V := bif isAgT P t then .agg (pats ks c).1 else match (pats ks c).1 with
  | [v] => v
  | _ => .und
/-- arguments by their types: patterns. -/
def patArgs (P : Program) : List (TypeId × List K1) → Cn → List V
  | [], _ => []
  | a :: l, c => patA P a.1 a.2 c :: patArgs P l (pats a.2 c).2
def factArgs : List (TypeId × List K1) → Cn → Env → Prop
  | [], _, _ => True
  | a :: l, c, ρ => facts a.2 c ρ ∧ factArgs l (pats a.2 c).2 ρ
/-- what is known of arguments. -/
def ArgsRd (P : Program) (w : World) : List (TypeId × List K1) → List Value → Prop
  | [], xs => xs = []
  | a :: l, xs => ∃ x r, xs = x :: r ∧ (RdG w a.2 x.cells.toList ∧ (if isAgT P a.1 = true then ∃ cs, x = .agg cs else x.oneCell' = true)) ∧ ArgsRd P w l r
theorem cells_one {x : Value} (h : x.oneCell' = true) : x.cells.toList = [x] := by cases x <;> first | rfl | (simp [Value.oneCell'] at h)
theorem args_ok {P : Program} {w : World} : ∀ (l : List (TypeId × List K1)) (xs : List Value) (x : Lt), ArgsRd P w l xs → ∃ y : Lt, x.le y ∧ ∀ β : Bt, β.g.fz = fzOf w → Agr y β.g.env → F2 (R β) (patArgs P l x.cn) xs ∧ factArgs l x.cn β.g.env
  | [], xs, x, h => by
    have h : xs = [] := h
    subst h
    exact ⟨x, Lt.le.refl x, fun β _ _ => ⟨trivial, trivial⟩⟩
  | a :: l, xs, x, ⟨u, r, e, ⟨h1, h2⟩, h3⟩ => by
    subst e
    obtain ⟨y, y1, y2, y3⟩ := letters a.2 _ x h1
    obtain ⟨z, z1, z3⟩ := args_ok l r y h3
    rw [y2] at z3
    refine ⟨z, y1.trans z1, fun β hβ ha => ?_⟩
    obtain ⟨c1, c2⟩ := y3 β.g hβ (z1.agr ha)
    obtain ⟨d1, d2⟩ := z3 β hβ ha
    refine ⟨⟨?_, d1⟩, c2, d2⟩
    unfold patA
    cases hag : isAgT P a.1 with
    | true =>
      rw [hag, if_pos rfl] at h2
      obtain ⟨cs, rfl⟩ := h2
      refine R2.up (v := .agg _) ⟨cs, rfl, F2.mono (fun v x hv => (F1.up hv).up) c1⟩
    | false =>
      rw [hag] at h2
      simp only [Bool.false_eq_true, if_false] at h2
      rw [cells_one h2] at c1
      rw [cond_false]
      match hp : (pats a.2 x.cn).1, c1 with
      | [v], c1 => exact R0.toR (F1.up c1.1)
      | [], c1 => exact c1.elim
      | _ :: _ :: _, c1 => exact c1.2.elim
theorem arg_rd {H : Type} {enc : TypeId × Value → H} {P : Program} {w : World} {b d t : Nat} {ks : List K1} {v : Value} {x : DataW H} {p : List MemPlace} (hk : kindsT P d t = some ks) (ht : DataW.Trod enc P w 0 (fun _ => true) true t v x p) (hl : light (x.weights P t)) (ho : Value.okWide P w .any b t v) :
    RdG w ks v.cells.toList ∧ (if isAgT P t = true then ∃ cs, v = .agg cs else v.oneCell' = true) := by
  obtain ⟨m, hm⟩ := ht
  refine ⟨trod_rd d t ks m _ (x, p) hk hm hl, ?_⟩
  cases d with
  | zero => cases hk
  | succ d =>
    unfold kindsT at hk
    unfold Value.okWide at ho
    unfold isAgT
    split at hk
    · rename_i k hu
      rw [hu] at ho ⊢
      simp only [Cell.okWide, hu] at ho
      cases v <;> simp [Cell.ok, hu] at ho <;> rfl
    · rename_i hu
      rw [hu] at ho ⊢
      simp only [Cell.okWide, hu] at ho
      cases v <;> simp [Cell.ok, hu] at ho <;> rfl
    · rename_i hu
      rw [hu] at ho ⊢
      simp only [Cell.okWide, hu] at ho
      cases v <;> simp [Cell.ok, hu] at ho <;> rfl
    · rename_i fs hu
      rw [hu] at ho ⊢
      obtain ⟨cs, rfl, _⟩ := ho
      exact ⟨cs, rfl⟩
    · rename_i n e hu
      rw [hu] at ho ⊢
      obtain ⟨cs, rfl, _⟩ := ho
      exact ⟨cs, rfl⟩
    · rename_i e hu
      rw [hu] at ho ⊢
      simp only [Cell.okWide, hu] at ho
      cases v <;> simp [Cell.ok, hu] at ho <;> rfl
    · cases hk
theorem light_of {l : List Nat} (h : l.all (· ≤ reachBytes) = true) : light l := fun n hn => by
  have := List.all_eq_true.1 h n hn
  simpa using this
/-- **a law by its letters.** -/
theorem law_ok {P : Program} (hm : P.follows .mixedOrders = true) {cf : Cf} (hcf : CfOk P cf) {fuel depth : Nat} {g : FuncId} (l : List (TypeId × List K1)) {xs : List Value} {W : World} (hA : ArgsRd P W l xs)
    (h : ∀ ρ : Env, factArgs l cn0 ρ → (want (exec P cf fuel depth g (patArgs P l cn0))).den ρ = true) : Calls P g xs.toArray W (fun e W' => e = .returned (.bool true) ∧ Below W.heap.size W W') := by
  obtain ⟨y, _, hy⟩ := args_ok l xs lt0 hA
  have := hy (allFz y.env W) rfl y.env_agr
  exact exec_law hm hcf (h y.env this.2) W this.1
end Go.Proofs.Ytgpoomoifgfajaa.E
/- Trees with one good end. Plain Lean over the kit's model; no program. -/
namespace Go.Proofs.Ytgpoomoifgfajaa.E
open Go Go.RowKit
set_option linter.unusedVariables false
def allBad {α : Type} (bad : α → Bool) : T α → Bool
  | .leaf a => bad a
  | .br _ l r => allBad bad l && allBad bad r
  | .dead => false
def lad {α : Type} (bad : α → Bool) : T α → Option (List (B × Bool) × α)
  | .leaf a => bif bad a then none else some ([], a)
  | .br c l r => bif allBad bad l then (match lad bad r with
      | some (cs, g) => some ((c, false) :: cs, g)
      | none => none)
    else bif allBad bad r then (match lad bad l with
      | some (cs, g) => some ((c, true) :: cs, g)
      | none => none)
    else none
  | .dead => none
def holdAll (ρ : Env) (cs : List (B × Bool)) : Prop := ∀ p ∈ cs, p.1.den ρ = p.2
theorem allBad_ok {α : Type} {bad : α → Bool} {ρ : Env} : ∀ {t : T α}, allBad bad t = true → ∃ q, t.pick ρ = some q ∧ bad q = true
  | .leaf a, h => ⟨a, rfl, h⟩
  | .br c l r, h => by
    simp only [allBad, Bool.and_eq_true] at h
    simp only [T.pick]
    cases c.den ρ with
    | true => exact allBad_ok h.1
    | false => exact allBad_ok h.2
  | .dead, h => by cases h
theorem lad_ok {α : Type} {bad : α → Bool} {ρ : Env} : ∀ {t : T α} {cs : List (B × Bool)} {g : α}, lad bad t = some (cs, g) → (holdAll ρ cs → t.pick ρ = some g) ∧ (¬ holdAll ρ cs → ∃ q, t.pick ρ = some q ∧ bad q = true)
  | .leaf a, cs, g, h => by
    unfold lad at h
    cases hb : bad a with
    | true => rw [hb] at h; cases h
    | false => rw [hb] at h; cases h; exact ⟨fun _ => rfl, fun h => (h fun p hp => by cases hp).elim⟩
  | .br c l r, cs, g, h => by
    unfold lad at h
    have hcons : ∀ (b : Bool) cs', holdAll ρ ((c, b) :: cs') ↔ (c.den ρ = b ∧ holdAll ρ cs') := fun b cs' => by simp [holdAll]
    cases hl : allBad bad l with
    | true =>
      rw [hl, cond_true] at h
      split at h
      · rename_i cs' g' hr
        cases h
        obtain ⟨h1, h2⟩ := lad_ok (ρ := ρ) hr
        rw [hcons]
        simp only [T.pick]
        cases hc : c.den ρ with
        | true => exact ⟨fun h => (by cases h.1), fun _ => allBad_ok hl⟩
        | false => exact ⟨fun h => h1 h.2, fun h => h2 fun k => h ⟨rfl, k⟩⟩
      · cases h
    | false =>
      rw [hl, cond_false] at h
      cases hr : allBad bad r with
      | true =>
        rw [hr, cond_true] at h
        split at h
        · rename_i cs' g' hr'
          cases h
          obtain ⟨h1, h2⟩ := lad_ok (ρ := ρ) hr'
          rw [hcons]
          simp only [T.pick]
          cases hc : c.den ρ with
          | false => exact ⟨fun h => (by cases h.1), fun _ => allBad_ok hr⟩
          | true => exact ⟨fun h => h1 h.2, fun h => h2 fun k => h ⟨rfl, k⟩⟩
        · cases h
      | false => rw [hr] at h; cases h
  | .dead, cs, g, h => by cases h
end Go.Proofs.Ytgpoomoifgfajaa.E
/- Laws by rules: what is left to show follows, branch by branch, from what was asked and from rules. Plain Lean over the kit's model; no program. -/
namespace Go.Proofs.Ytgpoomoifgfajaa.E
open Go Go.RowKit
set_option linter.unusedVariables false
/-- where all of 'g' stands so, 'b' holds. -/
structure Rule where
  g : List (B × Bool)
  b : B
def Rule.Ok (ρ : Env) (r : Rule) : Prop := holdAll ρ r.g → r.b.den ρ = true
def hasK (kn : List (B × Bool)) (p : B × Bool) : Bool := kn.any fun q => q.1.same p.1 && bN q.2 p.2
def byRule (rules : List Rule) (kn : List (B × Bool)) (b : B) : Bool := rules.any fun r => r.b.same b && r.g.all (hasK kn)
def derB (rules : List Rule) (kn : List (B × Bool)) (b : B) : Bool := match b with
  | .lit true => true
  | .and x y => derB rules kn x && derB rules kn y
  | .not x => hasK kn (x, false) || hasK kn (.not x, true) || byRule rules kn (.not x)
  | b => hasK kn (b, true) || byRule rules kn b
/-- what a truth tells of its parts. -/
def partsB : B → List (B × Bool)
  | .and a b => partsB a ++ partsB b
  | .not a => [(a, false), (.not a, true)]
  | b => [(b, true)]
def lawChk (rules : List Rule) : List (B × Bool) → T (V × List B) → Bool
  | kn, .leaf (v, oks) => match v with
    | .bool b => derB rules kn b && oks.all (derB rules kn)
    | _ => false
  | kn, .br c l r => bif derB rules kn c then lawChk rules kn l else bif derB rules kn (.not c) then lawChk rules kn r else
    lawChk rules ((c, true) :: (partsB c ++ kn)) l && lawChk rules ((c, false) :: kn) r
  | _, .dead => false
section
variable {ρ : Env} {rules : List Rule} (hr : ∀ r ∈ rules, r.Ok ρ)
theorem hasK_ok {kn : List (B × Bool)} (hk : holdAll ρ kn) {p : B × Bool} (h : hasK kn p = true) : p.1.den ρ = p.2 := by
  unfold hasK at h
  rw [List.any_eq_true] at h
  obtain ⟨q, hq, h⟩ := h
  simp only [Bool.and_eq_true] at h
  rw [← B.same_ok h.1, ← bN_inj h.2]
  exact hk q hq
include hr in
theorem byRule_ok {kn : List (B × Bool)} (hk : holdAll ρ kn) {b : B} (h : byRule rules kn b = true) : b.den ρ = true := by
  unfold byRule at h
  rw [List.any_eq_true] at h
  obtain ⟨r, hm, h⟩ := h
  simp only [Bool.and_eq_true, List.all_eq_true] at h
  rw [← B.same_ok h.1]
  exact hr r hm fun p hp => hasK_ok hk (h.2 p hp)
include hr in
theorem derB_ok {kn : List (B × Bool)} (hk : holdAll ρ kn) : ∀ {b : B}, derB rules kn b = true → b.den ρ = true
  | .lit true, _ => rfl
  | .and x y, h => by
    unfold derB at h
    simp only [Bool.and_eq_true] at h
    simp only [B.den, derB_ok hk h.1, derB_ok hk h.2]; rfl
  | .not x, h => by
    unfold derB at h
    simp only [Bool.or_eq_true] at h
    rcases h with (h | h) | h
    · have := hasK_ok hk h
      simp only at this
      simp only [B.den, this]; rfl
    · exact hasK_ok hk h
    · exact byRule_ok hr hk h
  | .lit false, h | .var _, h | .lt .., h | .eq .., h | .leq .., h | .seq .., h => by
    unfold derB at h
    simp only [Bool.or_eq_true] at h
    rcases h with h | h
    · exact hasK_ok hk h
    · exact byRule_ok hr hk h
theorem partsB_ok : ∀ {b : B}, b.den ρ = true → holdAll ρ (partsB b)
  | .and a b, h => by
    simp only [B.den, Bool.and_eq_true] at h
    intro p hp
    unfold partsB at hp
    rcases List.mem_append.1 hp with hp | hp
    · exact partsB_ok h.1 p hp
    · exact partsB_ok h.2 p hp
  | .not a, h => by
    intro p hp
    unfold partsB at hp
    simp only [List.mem_cons, List.not_mem_nil, or_false] at hp
    rcases hp with rfl | rfl
    · simpa [B.den] using h
    · exact h
  | .lit _, h | .var _, h | .lt .., h | .eq .., h | .leq .., h | .seq .., h => by
    intro p hp
    unfold partsB at hp
    simp only [List.mem_cons, List.not_mem_nil, or_false] at hp
    subst hp; exact h
include hr in
theorem lawChk_ok : ∀ {t : T (V × List B)} {kn : List (B × Bool)}, holdAll ρ kn → lawChk rules kn t = true → ∃ b oks, t.pick ρ = some (.bool b, oks) ∧ b.den ρ = true ∧ okOk ρ oks
  | .leaf (v, oks), kn, hk, h => by
    unfold lawChk at h
    cases v with
    | bool b =>
      simp only [Bool.and_eq_true, List.all_eq_true] at h
      exact ⟨b, oks, rfl, derB_ok hr hk h.1, fun c hc => derB_ok hr hk (h.2 c hc)⟩
    | _ => cases h
  | .br c l r, kn, hk, h => by
    unfold lawChk at h
    simp only [T.pick]
    cases h1 : derB rules kn c with
    | true =>
      rw [h1, cond_true] at h
      rw [derB_ok hr hk h1]
      exact lawChk_ok hk h
    | false =>
      rw [h1, cond_false] at h
      cases h2 : derB rules kn (.not c) with
      | true =>
        rw [h2, cond_true] at h
        have : c.den ρ = false := by have := derB_ok hr hk h2; simpa [B.den] using this
        rw [this]
        exact lawChk_ok hk h
      | false =>
        rw [h2, cond_false] at h
        simp only [Bool.and_eq_true] at h
        cases hc : c.den ρ with
        | true => exact lawChk_ok (fun p hp => by
            rcases List.mem_cons.1 hp with rfl | hp
            · exact hc
            · rcases List.mem_append.1 hp with hp | hp
              · exact partsB_ok hc p hp
              · exact hk p hp) h.1
        | false => exact lawChk_ok (fun p hp => by
            rcases List.mem_cons.1 hp with rfl | hp
            · exact hc
            · exact hk p hp) h.2
  | .dead, kn, hk, h => by cases h
end
def resOk (t : T (V × St)) : T (V × List B) := t.map fun q => (q.1, q.2.ok)
theorem T.map_pick {α β : Type} {f : α → β} {ρ : Env} : ∀ {t : T α} {b : β}, (t.map f).pick ρ = some b → ∃ a, t.pick ρ = some a ∧ f a = b
  | .leaf a, b, h => by simp only [T.map, T.pick, Option.some.injEq] at h; exact ⟨a, rfl, h⟩
  | .br c l r, b, h => by
    simp only [T.map, T.pick] at h ⊢
    cases hc : c.den ρ with
    | true => rw [hc] at h; exact T.map_pick h
    | false => rw [hc] at h; exact T.map_pick h
  | .dead, b, h => by cases h
/-- **a law by rules.** -/
theorem law_by {P : Program} (hm : P.follows .mixedOrders = true) {cf : Cf} (hcf : CfOk P cf) {fuel depth : Nat} {g : FuncId} (l : List (TypeId × List K1)) {xs : List Value} {W : World} (hA : ArgsRd P W l xs) (rules : List Rule)
    (hr : ∀ ρ : Env, factArgs l cn0 ρ → ∀ r ∈ rules, r.Ok ρ) (h : lawChk rules [] (resOk (exec P cf fuel depth g (patArgs P l cn0))) = true) : Calls P g xs.toArray W (fun e W' => e = .returned (.bool true) ∧ Below W.heap.size W W') := by
  obtain ⟨y, _, hy⟩ := args_ok l xs lt0 hA
  obtain ⟨h1, h2⟩ := hy (allFz y.env W) rfl y.env_agr
  obtain ⟨b, oks, hp, hb, ho⟩ := lawChk_ok (hr _ h2) (ρ := y.env) (fun p hp => by cases hp) h
  obtain ⟨⟨v, s⟩, hp', e⟩ := T.map_pick hp
  simp only [Prod.mk.injEq] at e
  obtain ⟨rfl, rfl⟩ := e
  exact (exec_ok hm hcf hp' ho).law hb W h1
end Go.Proofs.Ytgpoomoifgfajaa.E
