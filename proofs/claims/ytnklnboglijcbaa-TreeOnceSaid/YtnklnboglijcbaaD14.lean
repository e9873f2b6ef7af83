/- Pieces of code joined by hand; names given anew. Plain Lean over the kit's model; no program. -/
import Derived.Test.YtnklnboglijcbaaD13
namespace Go.Proofs.Ytnklnboglijcbaa.D
open Go Go.RowKit
set_option linter.unusedVariables false

/-! ### less is said -/
/-- fewer slots. -/
def Fr.le (a b : Fr) : Prop := ∀ t, a t = .und ∨ a t = b t
theorem Fr.le.refl (a : Fr) : Fr.le a a := fun t => .inr rfl
theorem Fr.le.ok {a b : Fr} {β : Bt} {nt : Nat} {x : Act} (h : Fr.le a b) (hF : FrOk β b nt x) : FrOk β a nt x :=
  ⟨fun t => by rcases h t with e | e <;> rw [e]; exact (show R β .und _ from trivial); exact hF.1 t, hF.2⟩
section
variable {P : Program} {nt : Nat} {c : Code} {k : Nat} {fr fr1 fr' fr2 : Fr} {n n' n2 : Nat} {σ σ' σ2 : Sto} {o : Out}
theorem TC.pre (h : TC P nt c fr1 n σ o fr' n' σ') (hf : Fr.le fr1 fr) : TC P nt c fr n σ o fr' n' σ' :=
  fun β a w Q hS hF hQ => h β a w Q hS (hf.ok hF) hQ
theorem TC.post (h : TC P nt c fr n σ o fr' n' σ') (hf : Fr.le fr2 fr') (hn : n' ≤ n2) (hs : σ2.le σ') : TC P nt c fr n σ o fr2 n2 σ2 :=
  fun β a w Q hS hF hQ => h β a w Q hS hF fun β' a' w' hS' hF' st => hQ β' a' w' ((hS'.drop hs).mono hn) (hf.ok hF') (st.dropEnd hs)
theorem TR.pre (h : TR P nt c k fr1 n σ o fr' n' σ') (hf : Fr.le fr1 fr) : TR P nt c k fr n σ o fr' n' σ' :=
  fun β a w Q hS hF hQ => h β a w Q hS (hf.ok hF) hQ
theorem TR.post (h : TR P nt c k fr n σ o fr' n' σ') (hf : Fr.le fr2 fr') (hn : n' ≤ n2) (hs : σ2.le σ') : TR P nt c k fr n σ o fr2 n2 σ2 :=
  fun β a w Q hS hF hQ => h β a w Q hS hF fun β' a' w' hS' hF' st => hQ β' a' w' ((hS'.drop hs).mono hn) (hf.ok hF') (st.dropEnd hs)
/-- the end's objects, said in other words. -/
theorem TC.same (h : TC P nt c fr n σ o fr' n' σ') (hs : ∀ id o, σ2 id = some o → ∃ o', σ' id = some o' ∧ o'.cells = o.cells ∧ o'.rw = o.rw ∧ o'.e = o.e) : TC P nt c fr n σ o fr' n' σ2 := by
  intro β a w Q hS hF hQ
  refine h β a w Q hS hF fun β' a' w' hS' hF' st => hQ β' a' w' ⟨fun id ob e => ?_, fun id ob id' ob' p p' e hr e' hne hp hp' => ?_, hS'.fresh⟩ hF' ⟨st.le, st.os, st.tape, st.output, st.size, st.fr, fun id ob p e hp => ?_⟩
  · obtain ⟨o', k1, k2, k3, k4⟩ := hs id ob e
    obtain ⟨p, hp, hok⟩ := hS'.ob id o' k1
    exact ⟨p, hp, hok.cells k2 k3 k4⟩
  · obtain ⟨o1, k1, k2, k3, k4⟩ := hs id ob e
    obtain ⟨o2, l1, l2, l3, l4⟩ := hs id' ob' e'
    exact hS'.sep id o1 id' o2 p p' k1 (k3.trans hr) l1 hne hp hp'
  · obtain ⟨o1, k1, k2, k3, k4⟩ := hs id ob e
    rw [← k3]; exact st.own id o1 p k1 hp

/-- slots from a list. -/
def frL' : List (Nat × V) → Fr
  | [], _ => .und
  | (i, v) :: l, t => if Nat.beq i t then v else frL' l t
def frHas (fr : Fr) : List (Nat × V) → Prop
  | [] => True
  | (i, v) :: l => fr i = v ∧ frHas fr l
theorem frHas.le : ∀ {l : List (Nat × V)} {fr : Fr}, frHas fr l → Fr.le (frL' l) fr
  | [], _, _, _ => .inl rfl
  | (i, v) :: l, fr, h, t => by
    unfold frL'
    split
    · rename_i e; right; rw [← Nat.eq_of_beq_eq_true e]; exact h.1.symm
    · exact frHas.le h.2 t
/-- objects from a list. -/
def stL : List (Nat × Ob) → Sto
  | [], _ => none
  | (i, v) :: l, t => if Nat.beq i t then some v else stL l t
def stHas (σ : Sto) : List (Nat × Ob) → Prop
  | [] => True
  | (i, v) :: l => σ i = some v ∧ stHas σ l
theorem stHas.le : ∀ {l : List (Nat × Ob)} {σ : Sto}, stHas σ l → (stL l).le σ
  | [], _, _, _, _, h => by cases h
  | (i, v) :: l, σ, h, t, o, e => by
    unfold stL at e
    split at e
    · rename_i ei; cases e; rw [← Nat.eq_of_beq_eq_true ei]; exact h.1
    · exact stHas.le h.2 t o e

/-- a run's end, and its state. -/
def oOut (x : Option (Out × St)) : Option Out := x.map (·.1)
def oSt (x : Option (Out × St)) : St := match x with
  | some (_, s) => s
  | none => ⟨fun _ => .und, 0, no, 0, false⟩
theorem oSt_tc {P : Program} (hm : P.follows .mixedOrders = true) {ct : CT} (hct : CTOk P ct) {φ : Way} {lp : LT} (hlp : LTOk P nt (loopsIn c) lp) {s : St} {j : Nat} (h : oOut (dcode P ct φ lp nt j c s) = some o) (hok : (oSt (dcode P ct φ lp nt j c s)).ok = true) :
    TC P nt c s.fr s.n s.σ o (oSt (dcode P ct φ lp nt j c s)).fr (oSt (dcode P ct φ lp nt j c s)).n (oSt (dcode P ct φ lp nt j c s)).σ := by
  cases hd : dcode P ct φ lp nt j c s with
  | none => rw [hd] at h; cases h
  | some os =>
    obtain ⟨o', s'⟩ := os
    rw [hd] at h hok
    cases h
    exact (dcode_ok hm hct hlp _ _ _ _ _ (fun a ha => ha) hd hok).1
/-- the same, what is wanted of the end being listed. -/
theorem run_tc {P : Program} (hm : P.follows .mixedOrders = true) {ct : CT} (hct : CTOk P ct) (φ : Way) {lp : LT} (hlp : LTOk P nt (loopsIn c) lp) (j : Nat) (fl : List (Nat × V)) (sl : List (Nat × Ob)) (gl : List (Nat × V)) (tl : List (Nat × Ob))
    (h : oOut (dcode P ct φ lp nt j c ⟨frL' fl, n, stL sl, 0, true⟩) = some o) (hok : (oSt (dcode P ct φ lp nt j c ⟨frL' fl, n, stL sl, 0, true⟩)).ok = true)
    (hfr : frHas (oSt (dcode P ct φ lp nt j c ⟨frL' fl, n, stL sl, 0, true⟩)).fr gl) (hn : (oSt (dcode P ct φ lp nt j c ⟨frL' fl, n, stL sl, 0, true⟩)).n ≤ n') (hst : stHas (oSt (dcode P ct φ lp nt j c ⟨frL' fl, n, stL sl, 0, true⟩)).σ tl) :
    TC P nt c (frL' fl) n (stL sl) o (frL' gl) n' (stL tl) :=
  (oSt_tc hm hct hlp h hok).post (frHas.le hfr) hn (stHas.le hst)
end

/-! ### names given anew -/
def V.ren0 (ρ : Nat → Nat) : V → V
  | .ptr id off => .ptr (ρ id) off
  | .sl id off len z top cap => .sl (ρ id) off len z top cap
  | v => v
def V.ren1 (ρ : Nat → Nat) : V → V
  | .fn f a b => .fn f (a.map (V.ren0 ρ)) (b.map (V.ren0 ρ))
  | v => v.ren0 ρ
def V.ren2 (ρ : Nat → Nat) : V → V
  | .agg cs => .agg (cs.map (V.ren1 ρ))
  | v => v.ren1 ρ
def V.ren (ρ : Nat → Nat) : V → V
  | .tup vs => .tup (vs.map (V.ren2 ρ))
  | v => v.ren2 ρ
def Row.ren (ρ : Nat → Nat) : Row → Row
  | .any l => .any (l.map (V.ren1 ρ))
  | .ints k l => .ints k l
def Ob.ren (ρ : Nat → Nat) (o : Ob) : Ob := ⟨o.row.ren ρ, o.rw, o.e⟩
theorem Ob.ren_cells (ρ : Nat → Nat) (o : Ob) : (o.ren ρ).cells = o.cells.map (V.ren1 ρ) := by
  unfold Ob.cells Ob.ren
  cases o.row with
  | any l => rfl
  | ints k l => simp [Row.ren, Row.vs, V.ren1, V.ren0]

section
variable {β β' : Bt} {ρ : Nat → Nat} {p : Nat → Bool}
theorem R0.ren (hp : ∀ id, p id = true → ∀ b, β id = some b → β' (ρ id) = some b) {v x} (h : R0 β v x) (hv : v.in0 p = true) : R0 β' (v.ren0 ρ) x := by
  cases v with
  | ptr id off => obtain ⟨a, e, b, hb, ha⟩ := h; exact ⟨a, e, b, hp id hv b hb, ha⟩
  | sl id off len z top cap => obtain ⟨b, c, hb, r⟩ := h; exact ⟨b, c, hp id hv b hb, r⟩
  | _ => exact h
theorem F2.ren {r r' : V → Value → Prop} {q : V → Bool} {f : V → V} (hr : ∀ v x, q v = true → r v x → r' (f v) x) : ∀ {vs : List V} {xs : List Value}, F2 r vs xs → vs.all q = true → F2 r' (vs.map f) xs
  | [], [], _, _ => trivial
  | v :: vs, x :: xs, h, hq => by
    simp only [List.all_cons, Bool.and_eq_true] at hq
    exact ⟨hr v x hq.1 h.1, F2.ren hr h.2 hq.2⟩
theorem R1.ren (hp : ∀ id, p id = true → ∀ b, β id = some b → β' (ρ id) = some b) {v x} (h : R1 β v x) (hv : v.in1 p = true) : R1 β' (v.ren1 ρ) x := by
  cases v with
  | fn f a b =>
    obtain ⟨xs, ys, e, h1, h2⟩ := h
    simp only [V.in1, Bool.and_eq_true] at hv
    exact ⟨xs, ys, e, h1.ren (fun v x hq hr => hr.ren hp hq) hv.1, h2.ren (fun v x hq hr => hr.ren hp hq) hv.2⟩
  | ptr id off => exact R0.ren hp (show R0 β (.ptr id off) x from h) hv
  | sl id off len z top cap => exact R0.ren hp (show R0 β (.sl id off len z top cap) x from h) hv
  | _ => exact h
theorem R2.ren (hp : ∀ id, p id = true → ∀ b, β id = some b → β' (ρ id) = some b) {v x} (h : R2 β v x) (hv : v.in2 p = true) : R2 β' (v.ren2 ρ) x := by
  cases v with
  | agg cs => obtain ⟨xs, e, h1⟩ := h; exact ⟨xs, e, h1.ren (fun v x hq hr => hr.ren hp hq) hv⟩
  | fn f a b => exact R1.ren hp (show R1 β (.fn f a b) x from h) hv
  | ptr id off => exact R1.ren hp (show R1 β (.ptr id off) x from h) hv
  | sl id off len z top cap => exact R1.ren hp (show R1 β (.sl id off len z top cap) x from h) hv
  | _ => exact h
theorem R.ren (hp : ∀ id, p id = true → ∀ b, β id = some b → β' (ρ id) = some b) {v x} (h : R β v x) (hv : v.inn p = true) : R β' (v.ren ρ) x := by
  cases v with
  | tup vs => obtain ⟨xs, e, h1⟩ := h; exact ⟨xs, e, h1.ren (fun v x hq hr => hr.ren hp hq) hv⟩
  | agg cs => exact R2.ren hp (show R2 β (.agg cs) x from h) hv
  | fn f a b => exact R2.ren hp (show R2 β (.fn f a b) x from h) hv
  | ptr id off => exact R2.ren hp (show R2 β (.ptr id off) x from h) hv
  | sl id off len z top cap => exact R2.ren hp (show R2 β (.sl id off len z top cap) x from h) hv
  | _ => exact h
theorem ObOk.ren (hp : ∀ id, p id = true → ∀ b, β id = some b → β' (ρ id) = some b) {w : World} {q : Bl} {o : Ob} (h : ObOk β w q o) (hc : o.cells.all (V.in1 p) = true) : ObOk β' w q (o.ren ρ) := by
  obtain ⟨hlt, h⟩ := h
  refine ⟨hlt, ?_⟩
  rw [Ob.ren_cells]
  show match o.rw with | true => _ | false => _
  cases hr : o.rw with
  | true =>
    rw [hr] at h
    obtain ⟨hd, cur, hg, hs, hle, hf⟩ := h
    exact ⟨hd, cur, hg, hs, by simpa using hle, by rw [List.length_map]; exact hf.ren (fun v x hq hr => hr.ren hp hq) hc⟩
  | false =>
    rw [hr] at h
    intro i v hv
    rw [List.getElem?_map] at hv
    obtain ⟨u, hu, rfl⟩ := Option.map_eq_some_iff.1 hv
    obtain ⟨x, hx, hR⟩ := h i u hu
    exact ⟨x, hx, hR.ren hp (List.all_eq_true.1 hc u (List.mem_of_getElem? hu))⟩
end

def idx (ns : List Nat) (id : Nat) : Nat := match ns with
  | [] => 0
  | x :: l => if Nat.beq x id then 0 else idx l id + 1
theorem idx_get : ∀ {ns : List Nat} {id : Nat}, ns.contains id = true → ns[idx ns id]? = some id
  | [], id, h => by simp at h
  | x :: l, id, h => by
    unfold idx
    split
    · rename_i e; simp [Nat.eq_of_beq_eq_true e]
    · rename_i e
      have : l.contains id = true := by
        simp only [List.contains_cons, Bool.or_eq_true, beq_iff_eq] at h
        rcases h with h | h
        · subst h; simp at e
        · exact h
      simpa using idx_get this
theorem idx_lt {ns : List Nat} {id : Nat} (h : ns.contains id = true) : idx ns id < ns.length := (List.getElem?_eq_some_iff.1 (idx_get h)).1
theorem idx_of_get : ∀ {ns : List Nat} (hnd : ns.Nodup) {j id : Nat} (h : ns[j]? = some id), idx ns id = j
  | [], _, j, id, h => by simp at h
  | x :: l, hnd, 0, id, h => by
    simp at h; subst h
    unfold idx; simp
  | x :: l, hnd, j + 1, id, h => by
    have h' : l[j]? = some id := by simpa using h
    have hx := List.nodup_cons.1 hnd
    have hne : ¬ Nat.beq x id = true := fun e => hx.1 (by rw [Nat.eq_of_beq_eq_true e]; exact List.mem_of_getElem? h')
    unfold idx
    rw [if_neg hne, idx_of_get hx.2 h']

/-- objects of the names of a list, by their places in it. -/
def canS (ns : List Nat) (σ : Sto) : Sto := fun j => match ns[j]? with
  | some id => (σ id).map (Ob.ren (idx ns))
  | none => none
/-- the name outside of a name inside. -/
def outN (ns keep : List Nat) (n : Nat) (j : Nat) : Nat := if Nat.blt j ns.length then ns.getD j 0 else n + idx keep j
def outS (ns keep : List Nat) (n : Nat) (σ' : Sto) : Sto := fun id =>
  if Nat.ble n id && Nat.blt id (n + keep.length) then match keep[id - n]? with
    | some j => (σ' j).map (Ob.ren (outN ns keep n))
    | none => none
  else if ns.contains id then (σ' (idx ns id)).map (Ob.ren (outN ns keep n)) else none

theorem Spec.ren {P : Program} {g : FuncId} {args : List V} {ns keep : List Nat} {n m' : Nat} {σ σ' : Sto} {r : V} (h : Spec P g (args.map (V.ren (idx ns))) ns.length (canS ns σ) r m' σ')
    (hnd : ns.Nodup) (hkd : keep.Nodup) (hkm : ∀ k ∈ keep, ns.length ≤ k) (hn : ∀ id ∈ ns, id < n) (hsome : ∀ id ∈ ns, (σ id).isSome = true) (hdom : ∀ id ob, σ id = some ob → ns.contains id = true)
    (hin : ∀ id ob, σ id = some ob → ob.cells.all (V.in1 ns.contains) = true) (hargs : args.all (V.inn ns.contains) = true)
    (hr : r.inn (fun j => Nat.blt j ns.length || keep.contains j) = true) (hout : ∀ j ob, (Nat.blt j ns.length || keep.contains j) = true → σ' j = some ob → ob.cells.all (V.in1 fun j => Nat.blt j ns.length || keep.contains j) = true) :
    Spec P g args n σ (r.ren (outN ns keep n)) (n + keep.length) (outS ns keep n σ') := by
  refine ⟨h.there, fun β xs w hS hA => ?_⟩
  -- the names inside
  let β0 : Bt := fun j => match ns[j]? with | some id => β id | none => none
  have hβ0 : ∀ id, ns.contains id = true → ∀ b, β id = some b → β0 (idx ns id) = some b := fun id hid b hb => by simp only [β0, idx_get hid, hb]
  have hβs : ∀ id, ns.contains id = true → ∃ b, β id = some b := fun id hid => by
    obtain ⟨ob, hob⟩ := Option.isSome_iff_exists.1 (hsome id (by simpa using hid))
    obtain ⟨p, hp, _⟩ := hS.ob id ob hob
    exact ⟨p, hp⟩
  have hcan : ∀ j o, canS ns σ j = some o → ∃ id ob, ns[j]? = some id ∧ σ id = some ob ∧ o = ob.ren (idx ns) := by
    intro j o e
    unfold canS at e
    split at e
    · rename_i id hid
      obtain ⟨ob, hob, rfl⟩ := Option.map_eq_some_iff.1 e
      exact ⟨id, ob, hid, hob, rfl⟩
    · cases e
  have hS0 : Sim ns.length β0 (canS ns σ) w := by
    refine ⟨fun j o e => ?_, fun j o j' o' p p' e hr e' hne hp hp' => ?_, fun j hj => ?_⟩
    · obtain ⟨id, ob, hid, hob, rfl⟩ := hcan j o e
      obtain ⟨p, hp, hok⟩ := hS.ob id ob hob
      exact ⟨p, by simp only [β0, hid, hp], hok.ren hβ0 (hin id ob hob)⟩
    · obtain ⟨id, ob, hid, hob, rfl⟩ := hcan j o e
      obtain ⟨id', ob', hid', hob', rfl⟩ := hcan j' o' e'
      simp only [β0, hid] at hp
      simp only [β0, hid'] at hp'
      refine hS.sep id ob id' ob' p p' hob hr hob' ?_ hp hp'
      rintro rfl
      exact hne ((idx_of_get hnd hid).symm.trans (idx_of_get hnd hid'))
    · simp only [β0]
      rw [List.getElem?_eq_none hj]
  have hA0 : F2 (R β0) (args.map (V.ren (idx ns))) xs := hA.ren (fun v x hq hr => hr.ren hβ0 hq) hargs
  refine (h.calls β0 xs w hS0 hA0).mono ?_
  rintro e w' ⟨x, β', rfl, hR, hS', st⟩
  -- the names outside
  let β'' : Bt := fun id => if n ≤ id ∧ id < n + keep.length then match keep[id - n]? with | some j => β' j | none => none else β id
  have hle : β.le β'' := fun id p hp => by
    have : id < n := by
      rcases Nat.lt_or_ge id n with h | h
      · exact h
      · rw [hS.fresh id h] at hp; cases hp
    simp only [β'']
    rw [if_neg (by omega)]
    exact hp
  have hin' : ∀ j, j < ns.length → ∀ b, β' j = some b → ∃ id, ns[j]? = some id ∧ β id = some b := by
    intro j hj b hb
    obtain ⟨id, hid⟩ : ∃ id, ns[j]? = some id := ⟨_, List.getElem?_eq_getElem hj⟩
    obtain ⟨p, hp⟩ := hβs id (by simpa using List.mem_of_getElem? hid)
    have h1 : β0 j = some p := by simp only [β0, hid, hp]
    have h2 := st.le j p h1
    rw [hb] at h2
    cases h2
    exact ⟨id, hid, hp⟩
  have hren : ∀ j, (Nat.blt j ns.length || keep.contains j) = true → ∀ b, β' j = some b → β'' (outN ns keep n j) = some b := by
    intro j hj b hb
    unfold outN
    split
    · rename_i hlt
      have hlt : j < ns.length := Nat.le_of_ble_eq_true hlt
      obtain ⟨id, hid, hp⟩ := hin' j hlt b hb
      have : ns.getD j 0 = id := by simp [List.getD, hid]
      rw [this]
      exact hle id b hp
    · rename_i hlt
      have hk : keep.contains j = true := by
        simp only [Bool.or_eq_true] at hj
        rcases hj with hj | hj
        · exact (hlt hj).elim
        · exact hj
      have h1 := idx_lt hk
      simp only [β'']
      rw [if_pos (by omega), Nat.add_sub_cancel_left, idx_get hk]
      exact hb
  have hof : ∀ id o, outS ns keep n σ' id = some o → ∃ j ob, σ' j = some ob ∧ o = ob.ren (outN ns keep n) ∧ (Nat.blt j ns.length || keep.contains j) = true ∧ ((n ≤ id ∧ id < n + keep.length ∧ keep[id - n]? = some j) ∨ (id < n ∧ ns.contains id = true ∧ idx ns id = j)) ∧ (∀ b, β' j = some b → β'' id = some b) := by
    intro id o e
    unfold outS at e
    split at e
    · rename_i hc
      simp only [Bool.and_eq_true] at hc
      have h1 : n ≤ id := Nat.le_of_ble_eq_true hc.1
      have h2 : id < n + keep.length := Nat.le_of_ble_eq_true hc.2
      split at e
      · rename_i j hj
        obtain ⟨ob, hob, rfl⟩ := Option.map_eq_some_iff.1 e
        refine ⟨j, ob, hob, rfl, ?_, .inl ⟨h1, h2, hj⟩, fun b hb => ?_⟩
        · simp only [Bool.or_eq_true]; right; simpa using List.mem_of_getElem? hj
        · simp only [β'']
          rw [if_pos ⟨h1, h2⟩, hj]
          exact hb
      · cases e
    · split at e
      · rename_i hc hid
        obtain ⟨ob, hob, rfl⟩ := Option.map_eq_some_iff.1 e
        have hlt := idx_lt hid
        have hidn := hn id (by simpa using hid)
        refine ⟨_, ob, hob, rfl, by simp only [Bool.or_eq_true]; exact .inl (Nat.ble_eq_true_of_le hlt), .inr ⟨hidn, hid, rfl⟩, fun b hb => ?_⟩
        obtain ⟨id', hid', hp⟩ := hin' _ hlt b hb
        rw [idx_get hid] at hid'
        cases hid'
        exact hle id b hp
      · cases e
  have hinj : ∀ {id id' j : Nat}, ((n ≤ id ∧ id < n + keep.length ∧ keep[id - n]? = some j) ∨ (id < n ∧ ns.contains id = true ∧ idx ns id = j)) → ((n ≤ id' ∧ id' < n + keep.length ∧ keep[id' - n]? = some j) ∨ (id' < n ∧ ns.contains id' = true ∧ idx ns id' = j)) → id = id' := by
    intro id id' j h1 h2
    rcases h1 with ⟨a1, a2, a3⟩ | ⟨a1, a2, a3⟩ <;> rcases h2 with ⟨b1, b2, b3⟩ | ⟨b1, b2, b3⟩
    · have e1 := idx_of_get hkd a3
      have e2 := idx_of_get hkd b3
      omega
    · have := hkm j (List.mem_of_getElem? a3)
      have := idx_lt b2
      omega
    · have := hkm j (List.mem_of_getElem? b3)
      have := idx_lt a2
      omega
    · have e1 := idx_get a2
      have e2 := idx_get b2
      rw [a3] at e1; rw [b3] at e2
      rw [e1] at e2
      exact Option.some.inj e2
  refine ⟨x, β'', rfl, hR.ren hren hr, ⟨fun id o e => ?_, fun id o id' o' p p' e hrw e' hne hp hp' => ?_, fun id hid => ?_⟩, ⟨hle, st.os, st.tape, st.output, st.size, fun b hb hw => st.fr b hb ?_, fun id o p e hp => ?_⟩⟩
  · obtain ⟨j, ob, hob, rfl, hj, _, hb⟩ := hof id o e
    obtain ⟨p, hp, hok⟩ := hS'.ob j ob hob
    exact ⟨p, hb p hp, hok.ren hren (hout j ob hj hob)⟩
  · obtain ⟨j, ob, hob, rfl, hj, hc, hb⟩ := hof id o e
    obtain ⟨j', ob', hob', rfl, hj', hc', hb'⟩ := hof id' o' e'
    obtain ⟨q, hq, hok⟩ := hS'.ob j ob hob
    obtain ⟨q', hq', hok'⟩ := hS'.ob j' ob' hob'
    obtain rfl : p = q := Option.some.inj (hp.symm.trans (hb q hq))
    obtain rfl : p' = q' := Option.some.inj (hp'.symm.trans (hb' q' hq'))
    refine hS'.sep j ob j' ob' p p' hob hrw hob' ?_ hq hq'
    rintro rfl
    exact hne (hinj hc hc')
  · simp only [β'']
    rw [if_neg (by omega)]
    exact hS.fresh id (by omega)
  · rintro ⟨j, o, p, e1, e2, e3, e4⟩
    obtain ⟨id, ob, hid, hob, rfl⟩ := hcan j o e1
    simp only [β0, hid] at e3
    exact hw ⟨id, ob, p, hob, e2, e3, e4⟩
  · obtain ⟨j, ob, hob, rfl, hj, _, hb⟩ := hof id o e
    obtain ⟨q, hq, hok⟩ := hS'.ob j ob hob
    obtain rfl : p = q := Option.some.inj (hp.symm.trans (hb q hq))
    rcases st.own j ob p hob hq with ⟨j0, o0, p0, f1, f2, f3, f4⟩ | hge
    · obtain ⟨id0, ob0, hid0, hob0, rfl⟩ := hcan j0 o0 f1
      simp only [β0, hid0] at f2
      exact .inl ⟨id0, ob0, p0, hob0, f2, f3, f4⟩
    · exact .inr hge
end Go.Proofs.Ytnklnboglijcbaa.D
