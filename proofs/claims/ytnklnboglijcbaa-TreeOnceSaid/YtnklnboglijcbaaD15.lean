/- Calls among whichever names: a contract's own names are 0, 1, .., those of its arguments in order. Plain Lean over the kit's model; no program. -/
import Derived.Test.YtnklnboglijcbaaD14
namespace Go.Proofs.Ytnklnboglijcbaa.D
open Go Go.RowKit
set_option linter.unusedVariables false

section
variable {p q : Nat → Bool} {ρ ρ' : Nat → Nat}
theorem V.ren0_in (h : ∀ id, p id = true → q (ρ id) = true) {v : V} (hv : v.in0 p = true) : (v.ren0 ρ).in0 q = true := by
  cases v with
  | ptr id off => exact h id hv
  | sl id off len z top cap => exact h id hv
  | _ => rfl
theorem map_in {f : V → V} {a b : V → Bool} (h : ∀ v, a v = true → b (f v) = true) {l : List V} (hl : l.all a = true) : (l.map f).all b = true := by
  rw [List.all_eq_true] at hl ⊢
  intro x hx
  obtain ⟨y, hy, rfl⟩ := List.mem_map.1 hx
  exact h y (hl y hy)
theorem V.ren1_in (h : ∀ id, p id = true → q (ρ id) = true) {v : V} (hv : v.in1 p = true) : (v.ren1 ρ).in1 q = true := by
  cases v with
  | fn f a b =>
    simp only [V.in1, Bool.and_eq_true] at hv
    simp only [V.ren1, V.in1, Bool.and_eq_true]
    exact ⟨map_in (fun v hv => V.ren0_in h hv) hv.1, map_in (fun v hv => V.ren0_in h hv) hv.2⟩
  | ptr id off => exact h id hv
  | sl id off len z top cap => exact h id hv
  | _ => rfl
theorem V.ren0_back (h : ∀ id, p id = true → ρ' (ρ id) = id) {v : V} (hv : v.in0 p = true) : (v.ren0 ρ).ren0 ρ' = v := by
  cases v with
  | ptr id off => simp only [V.ren0]; rw [h id hv]
  | sl id off len z top cap => simp only [V.ren0]; rw [h id hv]
  | _ => rfl
theorem map_back {f g : V → V} {a : V → Bool} (h : ∀ v, a v = true → g (f v) = v) {l : List V} (hl : l.all a = true) : (l.map f).map g = l := by
  rw [List.all_eq_true] at hl
  rw [List.map_map]
  conv => rhs; rw [← List.map_id l]
  exact List.map_congr_left fun x hx => h x (hl x hx)
theorem V.ren1_back (h : ∀ id, p id = true → ρ' (ρ id) = id) {v : V} (hv : v.in1 p = true) : (v.ren1 ρ).ren1 ρ' = v := by
  cases v with
  | fn f a b =>
    simp only [V.in1, Bool.and_eq_true] at hv
    simp only [V.ren1]
    rw [map_back (fun v hv => V.ren0_back h hv) hv.1, map_back (fun v hv => V.ren0_back h hv) hv.2]
  | ptr id off => simp only [V.ren1, V.ren0]; rw [h id hv]
  | sl id off len z top cap => simp only [V.ren1, V.ren0]; rw [h id hv]
  | _ => rfl
theorem Ob.ren_inn (h : ∀ id, p id = true → q (ρ id) = true) {o : Ob} (ho : o.inn p = true) : (o.ren ρ).inn q = true := by
  unfold Ob.inn Ob.ren at *
  cases hr : o.row with
  | any l => rw [hr] at ho; exact map_in (fun v hv => V.ren1_in h hv) ho
  | ints k l => rfl
theorem Ob.ren_back (h : ∀ id, p id = true → ρ' (ρ id) = id) {o : Ob} (ho : o.inn p = true) : (o.ren ρ).ren ρ' = o := by
  obtain ⟨r, b, e⟩ := o
  unfold Ob.inn Ob.ren at *
  cases r with
  | any l => simp only [Row.ren]; rw [map_back (fun v hv => V.ren1_back h hv) ho]
  | ints k l => rfl
end

def nodupB : List Nat → Bool
  | [] => true
  | x :: l => !l.contains x && nodupB l
theorem nodupB_ok : ∀ {l : List Nat}, nodupB l = true → l.Nodup
  | [], _ => List.nodup_nil
  | x :: l, h => by
    simp only [nodupB, Bool.and_eq_true, Bool.not_eq_true'] at h
    refine List.nodup_cons.2 ⟨fun hx => ?_, nodupB_ok h.2⟩
    have : l.contains x = true := by simpa using hx
    rw [h.1] at this; cases this
theorem nums_nodup : ∀ (k n : Nat), (nums n k).Nodup
  | 0, n => List.nodup_nil
  | k + 1, n => List.nodup_cons.2 ⟨fun h => by have := (nums_mem k (n + 1) n).1 h; omega, nums_nodup k (n + 1)⟩
theorem nums_len : ∀ (k n : Nat), (nums n k).length = k
  | 0, n => rfl
  | k + 1, n => by simp [nums, nums_len k (n + 1)]
theorem nums_get : ∀ (k n i : Nat), i < k → (nums n k)[i]? = some (n + i)
  | 0, n, i, h => by omega
  | k + 1, n, 0, h => by simp [nums]
  | k + 1, n, i + 1, h => by simp [nums, nums_get k (n + 1) i (by omega)]; omega

def inC (m k : Nat) (j : Nat) : Bool := Nat.blt j m || (nums m k).contains j
theorem inC_eq (m k j : Nat) : inC m k j = true ↔ j < m + k := by
  unfold inC
  simp only [Bool.or_eq_true, List.contains_iff_mem, nums_mem]
  constructor
  · rintro (h | h)
    · have : j < m := Nat.le_of_ble_eq_true h
      omega
    · omega
  · intro h
    by_cases hm : j < m
    · exact .inl (Nat.ble_eq_true_of_le hm)
    · right; omega

theorem find_congr {α : Type} {p q : α → Bool} : ∀ {l : List α}, (∀ x ∈ l, p x = q x) → l.find? p = l.find? q
  | [], _ => rfl
  | a :: l, h => by
    rw [List.find?_cons, List.find?_cons, h a (by simp), find_congr fun x hx => h x (by simp [hx])]

/-- a table whose entries speak of the names 0, 1, .. -/
def canon (ct0 : CT) : CT := fun g args n σ =>
  let ns := (reach σ 1000 (args.flatMap V.ids) []).reverse
  if nodupB ns && ns.all (fun id => Nat.blt id n) && args.all (V.inn ns.contains) && ns.all (fun id => match σ id with | some ob => ob.inn ns.contains | none => false) then
    match ct0 g (args.map (V.ren (idx ns))) ns.length (canS ns σ) with
    | some ((r, news, muts), c) =>
      let k := news.length
      let ρ := outN ns (nums ns.length k) n
      if r.inn (inC ns.length k) && news.all (Ob.inn (inC ns.length k)) && muts.all (fun x => Nat.blt x.1 ns.length && match x.2 with | some ob => ob.inn (inC ns.length k) | none => true) then
        some ((r.ren ρ, news.map (Ob.ren ρ), muts.map fun x => (ns.getD x.1 0, x.2.map (Ob.ren ρ))), c)
      else none
    | none => none
  else none

theorem canon_ok {P : Program} {ct0 : CT} (h0 : CTOk P ct0) : CTOk P (canon ct0) := by
  intro g args n σ r news muts h
  unfold canon at h
  generalize hns : (reach σ 1000 (args.flatMap V.ids) []).reverse = ns at h
  simp only at h
  split at h
  case isFalse => cases h
  rename_i hc
  simp only [Bool.and_eq_true, List.all_eq_true] at hc
  obtain ⟨⟨⟨c1, c2⟩, c3⟩, c4⟩ := hc
  split at h
  case h_2 => cases h
  rename_i r0 news0 muts0 c hct
  split at h
  case isFalse => cases h
  rename_i hd
  simp only [Bool.and_eq_true, List.all_eq_true] at hd
  obtain ⟨⟨d1, d2⟩, d3⟩ := hd
  simp only [Option.some.injEq, Prod.mk.injEq] at h
  obtain ⟨⟨rfl, rfl, rfl⟩, rfl⟩ := h
  have hS := h0 _ _ _ _ _ _ _ hct
  have hnd := nodupB_ok c1
  have hsome : ∀ id ∈ ns, ∃ ob, σ id = some ob ∧ ob.inn ns.contains = true := by
    intro id hid
    have := c4 id hid
    split at this
    · rename_i ob e; exact ⟨ob, e, this⟩
    · cases this
  have hcan : canS ns (restr ns σ) = canS ns σ := by
    funext j
    unfold canS
    cases hj : ns[j]? with
    | none => rfl
    | some id =>
      have : ns.contains id = true := by simpa using List.mem_of_getElem? hj
      simp only [restr, this, if_true]
  have hidx : ∀ id, ns.contains id = true → outN ns (nums ns.length news0.length) n (idx ns id) = id := by
    intro id hid
    unfold outN
    rw [if_pos (show Nat.blt (idx ns id) ns.length = true from Nat.ble_eq_true_of_le (idx_lt hid))]
    simp [List.getD, idx_get hid]
  have hinc : (fun j => Nat.blt j ns.length || (nums ns.length news0.length).contains j) = inC ns.length news0.length := rfl
  have hcell : ∀ j ob, inC ns.length news0.length j = true → ext ns.length (canS ns σ) news0 muts0 j = some ob → ob.inn (inC ns.length news0.length) = true := by
    intro j ob hj e
    unfold ext at e
    split at e
    · exact d2 ob (List.mem_of_getElem? e)
    · split at e
      · rename_i x hx
        have := d3 x (List.mem_of_find?_eq_some hx)
        rw [e] at this
        exact this.2
      · unfold canS at e
        split at e
        · rename_i id hid
          obtain ⟨ob0, hob0, rfl⟩ := Option.map_eq_some_iff.1 e
          have hidm := List.mem_of_getElem? hid
          obtain ⟨ob1, hob1, hin1⟩ := hsome id hidm
          rw [hob0] at hob1
          cases hob1
          refine Ob.ren_inn (fun i hi => ?_) hin1
          exact (inC_eq _ _ _).2 (by have := idx_lt hi; omega)
        · cases e
  have hmain := Spec.ren (args := args) (ns := ns) (keep := nums ns.length news0.length) (n := n) (σ := restr ns σ) (by rw [hcan]; exact hS) hnd (nums_nodup _ _) (fun k hk => ((nums_mem _ _ _).1 hk).1)
    (fun id hid => Nat.le_of_ble_eq_true (c2 id hid)) (fun id hid => by
      obtain ⟨ob, hob, _⟩ := hsome id hid
      have : ns.contains id = true := by simpa using hid
      simp only [restr, this, if_true, hob, Option.isSome_some]) (fun id ob e => by
      unfold restr at e; split at e
      · assumption
      · cases e) (fun id ob e => by
      unfold restr at e; split at e
      · rename_i hid
        obtain ⟨ob', hob', hin⟩ := hsome id (by simpa using hid)
        rw [hob'] at e; cases e
        rw [← Ob.inn_eq]; exact hin
      · cases e) (List.all_eq_true.2 c3) d1 (fun j ob hj e => by rw [← Ob.inn_eq]; exact hcell j ob hj e)
  rw [nums_len] at hmain
  have hle : (restr ns σ).le σ := fun id o e => by
    unfold restr at e; split at e
    · exact e
    · cases e
  have hfr := Spec.frame hle hmain
  rw [List.length_map]
  refine hfr.congr fun β w hSim => ?_
  funext id
  have hfind : ∀ i, ns.contains i = true → (muts0.map fun x => (ns.getD x.1 0, x.2.map (Ob.ren (outN ns (nums ns.length news0.length) n)))).find? (fun x => Nat.beq x.1 i) = (muts0.find? fun x => Nat.beq x.1 (idx ns i)).map fun x => (ns.getD x.1 0, x.2.map (Ob.ren (outN ns (nums ns.length news0.length) n))) := by
    intro i hi
    rw [List.find?_map]
    congr 1
    refine find_congr ?_
    intro x hx
    have hlt : x.1 < ns.length := Nat.le_of_ble_eq_true (d3 x hx).1
    simp only [Function.comp]
    have hg : ns[x.1]? = some (ns.getD x.1 0) := by simp [List.getD, hlt]
    rw [Bool.eq_iff_iff]
    simp only [Nat.beq_eq]
    constructor
    · intro e; rw [e] at hg; exact (idx_of_get hnd hg).symm
    · intro e
      have h1 := idx_get hi
      rw [← e, hg] at h1
      exact Option.some.inj h1
  have hfind0 : ∀ i, ns.contains i = false → (muts0.map fun x => (ns.getD x.1 0, x.2.map (Ob.ren (outN ns (nums ns.length news0.length) n)))).find? (fun x => Nat.beq x.1 i) = none := by
    intro i hi
    rw [List.find?_eq_none]
    intro x hx
    obtain ⟨y, hy, rfl⟩ := List.mem_map.1 hx
    have hlt : y.1 < ns.length := Nat.le_of_ble_eq_true (d3 y hy).1
    intro e
    have e' := Nat.eq_of_beq_eq_true e
    simp only at e'
    have hg : ns[y.1]? = some (ns.getD y.1 0) := by simp [List.getD, hlt]
    have : i ∈ ns := by rw [← e']; exact List.mem_of_getElem? hg
    have : ns.contains i = true := by simpa using this
    rw [hi] at this; cases this
  -- an object at a name
  have hold : ∀ i, ns.contains i = true → outS ns (nums ns.length news0.length) n (ext ns.length (canS ns σ) news0 muts0) i = match (muts0.map fun x => (ns.getD x.1 0, x.2.map (Ob.ren (outN ns (nums ns.length news0.length) n)))).find? (fun x => Nat.beq x.1 i) with
      | some x => x.2
      | none => σ i := by
    intro i hi
    have hin : i < n := Nat.le_of_ble_eq_true (c2 i (by simpa using hi))
    unfold outS
    rw [if_neg (by simp; omega), if_pos hi, hfind i hi]
    unfold ext
    rw [if_neg (by have := idx_lt hi; simp; omega)]
    cases muts0.find? (fun x => Nat.beq x.1 (idx ns i)) with
    | some x => rfl
    | none =>
      obtain ⟨ob, hob, hio⟩ := hsome i (by simpa using hi)
      simp only [Option.map_none, canS, idx_get hi, hob, Option.map_some]
      rw [Ob.ren_back hidx hio]
  by_cases hid : n ≤ id
  · unfold Sto.over
    rw [if_pos hid]
    have hnc : ns.contains id = false := by
      cases hcc : ns.contains id with
      | false => rfl
      | true => have := c2 id (by simpa using hcc); have : id < n := Nat.le_of_ble_eq_true this; omega
    unfold outS ext
    rw [nums_len, List.length_map]
    split
    · rename_i hcond
      simp only [Bool.and_eq_true] at hcond
      have hlt : id < n + news0.length := Nat.le_of_ble_eq_true hcond.2
      rw [nums_get _ _ _ (by omega)]
      simp only
      rw [if_pos (by simp [Nat.blt]; omega), List.getElem?_map]
      congr 2
      omega
    · rw [hfind0 id hnc]
      simp only [hnc, Bool.false_eq_true, if_false]
      exact (hSim.none hid).symm
  · unfold Sto.over
    rw [if_neg hid]
    have hext : ext n σ (news0.map (Ob.ren (outN ns (nums ns.length news0.length) n))) (muts0.map fun x => (ns.getD x.1 0, x.2.map (Ob.ren (outN ns (nums ns.length news0.length) n)))) id = match (muts0.map fun x => (ns.getD x.1 0, x.2.map (Ob.ren (outN ns (nums ns.length news0.length) n)))).find? (fun x => Nat.beq x.1 id) with
      | some x => x.2
      | none => σ id := by
      unfold ext
      rw [if_neg (by simp; omega)]
      generalize List.find? _ _ = y
      cases y <;> rfl
    rw [hext]
    cases hcc : ns.contains id with
    | true =>
      obtain ⟨ob, hob, _⟩ := hsome id (by simpa using hcc)
      have : (restr ns σ id).isSome = true := by simp only [restr, hcc, if_true, hob]; rfl
      rw [if_pos this, hold id hcc]
    | false =>
      have : ¬ (restr ns σ id).isSome = true := by simp only [restr, hcc, Bool.false_eq_true, if_false, Option.isSome_none, not_false_eq_true]
      rw [if_neg this, hfind0 id hcc]

/-! ### a run's parts -/
abbrev Run := Option ((V × Nat × Sto) × Nat × Bool)
def rV (x : Run) : V := match x with | some ((v, _, _), _, _) => v | none => .und
def rN (x : Run) : Nat := match x with | some ((_, n, _), _, _) => n | none => 0
def rS (x : Run) : Sto := match x with | some ((_, _, σ), _, _) => σ | none => no
def rOk (x : Run) : Bool := match x with | some (_, _, c) => c | none => false
theorem run_spec {P : Program} (hm : P.follows .mixedOrders = true) {ct : CT} (hct : CTOk P ct) {φ : Way} {lp : LT} {k : Nat} {f : FuncId} {fn : Func} (hlp : LTOk P fn.ntmps (bodyLoops fn) lp) (hf : P.funcs[f]? = some fn) (hn : (fn.name == "runtime.NumGoroutine") = false) {args : List V} {n : Nat} {σ : Sto}
    (hok : rOk (dfun P ct φ lp k fn args n σ) = true) : Spec P f args n σ (rV (dfun P ct φ lp k fn args n σ)) (rN (dfun P ct φ lp k fn args n σ)) (rS (dfun P ct φ lp k fn args n σ)) := by
  cases hd : dfun P ct φ lp k fn args n σ with
  | none => rw [hd] at hok; cases hok
  | some y =>
    obtain ⟨⟨v, n', σ'⟩, i, c⟩ := y
    rw [hd] at hok
    exact dfun_ok hm hct hlp hf hn hd hok

/-- answers, the first one ahead. -/
def okT : List Bool → Bool → Bool
  | [], acc => acc
  | b :: l, acc => okT l (b && acc)
theorem okT_true : ∀ (l : List Bool) (acc : Bool), acc = true → (∀ b ∈ l, b = true) → okT l acc = true
  | [], acc, h, _ => h
  | b :: l, acc, h, hl => okT_true l (b && acc) (by rw [hl b (by simp), h]; rfl) fun c hc => hl c (by simp [hc])

/-! ### values without names -/
theorem bare1_ren {ρ : Nat → Nat} {p : Nat → Bool} {v : V} (h : v.bare1 = true) : v.ren1 ρ = v ∧ v.in1 p = true := by
  cases v <;> first | exact ⟨rfl, rfl⟩ | cases h
theorem map_same {f : V → V} {a : V → Bool} (h : ∀ v, a v = true → f v = v) {l : List V} (hl : l.all a = true) : l.map f = l := by
  rw [List.all_eq_true] at hl
  conv => rhs; rw [← List.map_id l]
  exact List.map_congr_left fun x hx => h x (hl x hx)
theorem all_mono {a b : V → Bool} (h : ∀ v, a v = true → b v = true) {l : List V} (hl : l.all a = true) : l.all b = true := by
  rw [List.all_eq_true] at hl ⊢
  exact fun x hx => h x (hl x hx)
theorem bare2_ren {ρ : Nat → Nat} {p : Nat → Bool} {v : V} (h : v.bare2 = true) : v.ren2 ρ = v ∧ v.in2 p = true := by
  cases v with
  | agg cs =>
    have h' : cs.all V.bare1 = true := h
    exact ⟨by simp only [V.ren2]; rw [map_same (fun v hv => (bare1_ren (p := p) hv).1) h'], all_mono (fun v hv => (bare1_ren (ρ := ρ) hv).2) h'⟩
  | sc x => exact ⟨rfl, rfl⟩
  | _ => cases h
theorem bare_ren {ρ : Nat → Nat} {p : Nat → Bool} {v : V} (h : v.bare = true) : v.ren ρ = v ∧ v.inn p = true := by
  cases v with
  | tup vs =>
    have h' : vs.all V.bare2 = true := h
    exact ⟨by simp only [V.ren]; rw [map_same (fun v hv => (bare2_ren (p := p) hv).1) h'], all_mono (fun v hv => (bare2_ren (ρ := ρ) hv).2) h'⟩
  | agg cs => exact bare2_ren (v := .agg cs) h
  | sc x => exact ⟨rfl, rfl⟩
  | und => exact ⟨rfl, rfl⟩
  | _ => cases h

theorem canS_nil (σ : Sto) : canS [] σ = no := by funext j; simp [canS, no]
/-- a contract found with no objects at all: a slice of numbers comes back. -/
theorem Spec.oneInts {P : Program} {g : FuncId} {args : List V} {m' id len z : Nat} {cap : Option Nat} {top : Bool} {σ' : Sto} {k : IntKind} {l : List Int} {b : Bool} {e : TypeId} (h : Spec P g args 0 no (.sl id 0 len z top cap) m' σ') (ha : args.all V.bare = true) (hob : σ' id = some ⟨.ints k l, b, e⟩) (n : Nat) :
    Spec P g args n no (.sl n 0 len z top cap) (n + 1) (no.put n ⟨.ints k l, b, e⟩) := by
  have e1 : args.map (V.ren (idx [])) = args := map_same (fun v hv => (bare_ren (p := fun _ => true) hv).1) ha
  have h1 := Spec.ren (args := args) (ns := []) (keep := [id]) (n := n) (σ := no) (by rw [e1, canS_nil]; exact h) List.nodup_nil (by simp) (fun _ _ => Nat.zero_le _) (fun _ h => by cases h) (fun _ h => by cases h) (fun _ _ h => by cases h) (fun _ _ h => by cases h)
    (all_mono (fun v hv => (bare_ren (ρ := fun x => x) hv).2) ha) (by simp [V.inn, V.in2, V.in1, V.in0]) (fun j ob hj hjo => by
      have : j = id := by simpa [Nat.blt] using hj
      subst this
      rw [hob] at hjo; cases hjo
      rw [← Ob.inn_eq]; rfl)
  have e2 : outN [] [id] n id = n := by simp [outN, idx, Nat.blt]
  have e3 : (V.sl id 0 len z top cap).ren (outN [] [id] n) = .sl n 0 len z top cap := by simp only [V.ren, V.ren2, V.ren1, V.ren0, e2]
  rw [e3] at h1
  refine h1.congr fun β w hS => ?_
  funext i
  unfold outS Sto.put no
  by_cases hi : i = n
  · subst hi; simp [Nat.blt, hob, Ob.ren, Row.ren]
  · rw [if_neg hi, if_neg (by simp [Nat.blt]; omega)]; simp
end Go.Proofs.Ytnklnboglijcbaa.D
