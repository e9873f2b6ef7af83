/- More operations: stores, places, parts, aggregates, slices, append. Plain Lean over the kit's model; no program. -/
import Derived.Test.YtnklnboglijcbaaD2
import Derived.Laws.MakeOwn
namespace Go.Proofs.Ytnklnboglijcbaa.D
open Go Go.RowKit

section
variable {P : Program} {o : Oper} {fr : Fr} {n : Nat} {σ : Sto}

/-! ### an object is written, or moves -/
def Sto.del (σ : Sto) (id : Nat) : Sto := fun j => if j = id then none else σ j

theorem put_cases {σ : Sto} {m id : Nat} {ob o : Ob} (h : σ.put m ob id = some o) : (id = m ∧ o = ob) ∨ (id ≠ m ∧ σ id = some o) := by
  unfold Sto.put at h
  split at h
  · exact .inl ⟨by assumption, by cases h; rfl⟩
  · exact .inr ⟨by assumption, h⟩
theorem del_cases {σ : Sto} {m id : Nat} {o : Ob} (h : σ.del m id = some o) : id ≠ m ∧ σ id = some o := by
  unfold Sto.del at h
  split at h
  · cases h
  · exact ⟨by assumption, h⟩
theorem del_le (σ : Sto) (m : Nat) : (σ.del m).le σ := fun _ _ h => (del_cases h).2

/-- an own object's block is written anew; its name stays. -/
theorem same_row {β : Bt} {w w' : World} (hS : Sim n β σ w) {id : Nat} {ob : Ob} {p : Bl} (hob : σ id = some ob) (hrw : ob.rw = true) (hp : β id = some p) (cs : List V) (cur : Array Value)
    (hh : w'.heap[p.b]? = some (.cells cur ob.e (0, 0))) (hs : cur.size = p.s) (hle : cs.length ≤ p.s) (hf : F2 (R1 β) cs (cur.toList.take cs.length)) (hsz : w'.heap.size = w.heap.size)
    (hoth : ∀ k, k ≠ p.b → w'.heap[k]? = w.heap[k]?) (h1 : w'.os = w.os) (h2 : w'.tape = w.tape) (h3 : w'.output = w.output) :
    Sim n β (σ.put id ⟨cs, true, ob.e⟩) w' ∧ Step β σ w β (σ.put id ⟨cs, true, ob.e⟩) w' := by
  obtain ⟨q0, hq0, hlt, hok⟩ := hS.ob id ob hob
  obtain rfl : p = q0 := Option.some.inj (hp.symm.trans hq0)
  clear hq0
  rw [hrw] at hok
  refine ⟨⟨?_, ?_, hS.fresh⟩, ⟨Bt.le.refl β, h1, h2, h3, by omega, fun b hb hw => hoth b ?_, ?_⟩⟩
  · intro j o h
    rcases put_cases h with ⟨rfl, rfl⟩ | ⟨hne, g⟩
    · exact ⟨p, hp, by omega, hok.1, cur, hh, hs, hle, hf⟩
    · obtain ⟨q, hq, hok'⟩ := hS.ob j o g
      exact ⟨q, hq, hok'.keep (Bt.le.refl β) (by omega) (hoth q.b (fun e => hS.sep id ob j o p q hob hrw g (Ne.symm hne) hp hq e.symm))⟩
  · intro j o j' o' q q' h hr h' hne k1 k2
    rcases put_cases h with ⟨e1, e2⟩ | ⟨hn1, g⟩ <;> rcases put_cases h' with ⟨f1, f2⟩ | ⟨hn2, g'⟩
    · exact (hne (e1.trans f1.symm)).elim
    · rw [e1] at k1 hne; exact hS.sep _ ob j' o' q q' hob hrw g' hne k1 k2
    · rw [f1] at k2 hne; exact fun e => hS.sep _ ob j o q' q hob hrw g (Ne.symm hne) k2 k1 e.symm
    · exact hS.sep j o j' o' q q' g hr g' hne k1 k2
  · rintro rfl
    exact hw ⟨id, ob, p, hob, hrw, hp, rfl⟩
  · intro j o q h k1
    rcases put_cases h with ⟨e1, e2⟩ | ⟨hn1, g⟩
    · rw [e1] at k1; exact .inl ⟨id, ob, q, hob, k1, rfl, fun _ => hrw⟩
    · exact .inl ⟨j, o, q, g, k1, rfl, fun h => h⟩

/-- one row more, and another one gone: either it is the same block, or a new one. -/
theorem next_row {β : Bt} {w w' : World} (hS : Sim n β σ w) {id : Nat} {ob : Ob} {p : Bl} (hob : σ id = some ob) (hrw : ob.rw = true) (hp : β id = some p) (e : TypeId) (cs : List V) (cur : Array Value) (g : Nat)
    (hg : g = p.b ∨ w.heap.size ≤ g) (hlt : g < w'.heap.size)
    (hh : w'.heap[g]? = some (.cells cur e (0, 0))) (hle : cs.length ≤ cur.size) (hf : F2 (R1 β) cs (cur.toList.take cs.length)) (hsz : w.heap.size ≤ w'.heap.size)
    (hoth : ∀ k, k < w.heap.size → k ≠ p.b → w'.heap[k]? = w.heap[k]?) (h1 : w'.os = w.os) (h2 : w'.tape = w.tape) (h3 : w'.output = w.output) :
    ∃ β', β' n = some ⟨g, 0, cur.size⟩ ∧ Sim (n + 1) β' ((σ.del id).put n ⟨cs, true, e⟩) w' ∧ Step β σ w β' ((σ.del id).put n ⟨cs, true, e⟩) w' := by
  let β' : Bt := fun j => if j = n then some ⟨g, 0, cur.size⟩ else β j
  have hnew : β' n = some ⟨g, 0, cur.size⟩ := by simp [β']
  have hold : ∀ j, j ≠ n → β' j = β j := fun j h => by simp [β', h]
  have hle' : β.le β' := fun j q hq => by
    by_cases e : j = n
    · subst e; rw [hS.fresh j (Nat.le_refl _)] at hq; cases hq
    · rw [hold j e]; exact hq
  have hput : ∀ j o, ((σ.del id).put n ⟨cs, true, e⟩) j = some o → (j = n ∧ o = ⟨cs, true, e⟩) ∨ (j ≠ n ∧ j ≠ id ∧ σ j = some o) := by
    intro j o h
    rcases put_cases h with h | ⟨hne, h⟩
    · exact .inl h
    · exact .inr ⟨hne, (del_cases h).1, (del_cases h).2⟩
  -- an other object's block is not g
  have hapart : ∀ j o q, j ≠ id → σ j = some o → β j = some q → q.b ≠ g ∧ q.b ≠ p.b ∧ q.b < w.heap.size := by
    intro j o q hj h hq
    obtain ⟨q', hq', hok⟩ := hS.ob j o h
    obtain rfl : q = q' := Option.some.inj (hq.symm.trans hq')
    have hne : q.b ≠ p.b := fun e => hS.sep id ob j o p q hob hrw h (Ne.symm hj) hp hq e.symm
    refine ⟨?_, hne, hok.1⟩
    rcases hg with rfl | hg
    · exact hne
    · have := hok.1; omega
  refine ⟨β', hnew, ⟨?_, ?_, ?_⟩, ⟨hle', h1, h2, h3, hsz, fun b hb hw => hoth b hb ?_, ?_⟩⟩
  · intro j o h
    rcases hput j o h with ⟨rfl, rfl⟩ | ⟨hne, hj, h⟩
    · exact ⟨_, hnew, hlt, rfl, cur, hh, rfl, hle, hf.mono fun _ _ => R1.mono hle'⟩
    · obtain ⟨q, hq, hok⟩ := hS.ob j o h
      obtain ⟨a1, a2, a3⟩ := hapart j o q hj h hq
      exact ⟨q, hle' _ _ hq, hok.keep hle' hsz (hoth q.b a3 a2)⟩
  · intro j o j' o' q q' h hr h' hne hq hq'
    rcases hput j o h with ⟨rfl, rfl⟩ | ⟨hn1, hj1, g1⟩ <;> rcases hput j' o' h' with ⟨rfl, rfl⟩ | ⟨hn2, hj2, g2⟩
    · exact (hne rfl).elim
    · rw [hold _ hn2] at hq'; rw [hnew] at hq; cases hq
      exact fun e => (hapart j' o' q' hj2 g2 hq').1 e.symm
    · rw [hold _ hn1] at hq; rw [hnew] at hq'; cases hq'
      exact (hapart j o q hj1 g1 hq).1
    · rw [hold _ hn1] at hq; rw [hold _ hn2] at hq'
      exact hS.sep j o j' o' q q' g1 hr g2 hne hq hq'
  · intro j hi
    rw [hold j (by omega)]; exact hS.fresh j (by omega)
  · rintro rfl
    exact hw ⟨id, ob, p, hob, hrw, hp, rfl⟩
  · intro j o q h hq
    rcases hput j o h with ⟨rfl, rfl⟩ | ⟨hn1, hj1, g1⟩
    · rw [hnew] at hq; cases hq
      rcases hg with rfl | hg
      · exact .inl ⟨id, ob, p, hob, hp, rfl, fun _ => hrw⟩
      · exact .inr hg
    · rw [hold _ hn1] at hq; exact .inl ⟨j, o, q, g1, hq, rfl, fun h => h⟩

/-! ### stores -/
def splice {α : Type} (l : List α) (off : Nat) (new : List α) : List α := l.take off ++ new ++ l.drop (off + new.length)

theorem TOp.store {t : TypeId} {x y : Operand} {id off : Nat} {ob : Ob} (h : o.op = .store t x y) (hx : opd fr x = .ptr id off) (hob : σ id = some ob) (hrw : ob.rw = true) (hy : (opd fr y).var = true)
    (hk : sz P t = some (opd fr y).cells.length) (hfit : off + (opd fr y).cells.length ≤ ob.cells.length) : TOp P o fr n σ .und n (σ.put id ⟨splice ob.cells off (opd fr y).cells, true, ob.e⟩) := by
  intro β a w K Q hS ho hK
  have h1 := ho x (by rw [h]; simp [Op.operands])
  rw [hx] at h1
  obtain ⟨ad, e, p, hp, rfl⟩ := (show R0 β (.ptr id off) (a.eval x) from h1)
  obtain ⟨q, hq, hlt, hok⟩ := hS.ob id ob hob
  obtain rfl : p = q := Option.some.inj (hp.symm.trans hq)
  rw [hrw] at hok
  obtain ⟨hd, cur, hg, hs, hle, hf⟩ := hok
  have hc := ((ho y (by rw [h]; simp [Op.operands])).var hy).cells
  have hcl := hc.length
  have hst := run_storeCells_at P p.b off ob.e (a.eval y).cells.toList 0 cur w hg (by rw [← hcl]; omega) (F2.one hc)
  simp only [Nat.add_zero] at hst
  have hlen : (splice ob.cells off (opd fr y).cells).length = ob.cells.length := by simp [splice]; omega
  obtain ⟨hS', hStep⟩ := same_row (w' := w.setRow p.b (cur.toList.take off ++ (a.eval y).cells.toList ++ cur.toList.drop (off + (a.eval y).cells.toList.length)).toArray) hS hob hrw hp (splice ob.cells off (opd fr y).cells) _
    (setRow_heap w p.b cur _ ob.e _ hg) (by simp at hcl ⊢; omega) (by omega) (by
      rw [hlen]
      have e1 := (hf.take off)
      have e2 := (hf.drop (off + (opd fr y).cells.length))
      have e3 := (e1.app hc).app e2
      refine (show F2 (R1 β) (splice ob.cells off (opd fr y).cells) _ from ?_)
      have e4 : ((cur.toList.take off ++ (a.eval y).cells.toList ++ cur.toList.drop (off + (a.eval y).cells.toList.length)).toArray.toList.take ob.cells.length) = List.take off (cur.toList.take ob.cells.length) ++ (a.eval y).cells.toList ++ List.drop (off + (opd fr y).cells.length) (cur.toList.take ob.cells.length) := by
        apply List.ext_getElem?
        intro i
        simp only [Array.length_toList] at hcl
        simp only [List.getElem?_take, List.getElem?_append, List.getElem?_drop, List.length_append, List.length_take, Array.length_toList]
        split <;> (repeat' split) <;> first | rfl | (exfalso; omega) | (congr 1; omega) | (simp; omega)
      rw [e4]; exact e3) (by simp) (fun k hk => setRow_other w p.b k _ hk) rfl rfl rfl
  refine wp_skp (w' := w.setRow p.b (cur.toList.take off ++ (a.eval y).cells.toList ++ cur.toList.drop (off + (a.eval y).cells.toList.length)).toArray) ?_ (hK _ β _ trivial hS' hStep)
  have hd' : p.d + off = off := by omega
  have hcl' : (a.eval y).cells.size = (opd fr y).cells.length := by simpa using hcl.symm
  unfold execOp
  rw [h]
  simp only [Instr.storeAt, e, Instr.sureAddr, Sem.run_bind, Sem.run_pure, Result.andThen_ok, storeVar, run_sz hk, hcl', ne_eq, not_true_eq_false, if_false, hd', hst]

/-! ### places -/
theorem POp.fieldAddr {s : TypeId} {x : Operand} {f id off k : Nat} {fs : Array Field} {fld : Field} (h : o.op = .fieldAddr s x f) (hx : opd fr x = .ptr id off) (hu : P.underlying s = some (.struct fs)) (hf : fs[f]? = some fld)
    (hk : sz P fld.type = some k) (hpos : k ≠ 0) : POp P o fr ((.ptr id (off + fld.offset))) :=
  fun β a w ho => by
    have h1 := ho x (by rw [h]; simp [Op.operands])
    rw [hx] at h1
    obtain ⟨ad, e, p, hp, rfl⟩ := (show R0 β (.ptr id off) (a.eval x) from h1)
    refine ⟨.pointer (some ⟨p.b, p.d + off + fld.offset, none⟩), ?_, ⟨_, rfl, p, hp, by rw [Nat.add_assoc]⟩⟩
    unfold execOp; rw [h]
    simp [Instr.fieldAt, run_underlying hu, hf, Instr.sureAddr, e, fieldPlace, run_sz hk, hpos, Addr.add_lit]

theorem POp.indexArr {t : TypeId} {x i : Operand} {id off len k : Nat} {el : TypeId} {kd : IntKind} {j : Int} (h : o.op = .indexAddr t x i) (hx : opd fr x = .ptr id off) (hi : opd fr i = .sc (.int kd j)) (hu : P.underlying t = some (.array len el))
    (hk : sz P el = some k) (h0 : 0 ≤ j) (h1 : j < len) : POp P o fr ((.ptr id (off + j.toNat * k))) :=
  fun β a w ho => by
    have g1 := ho x (by rw [h]; simp [Op.operands])
    rw [hx] at g1
    obtain ⟨ad, e, p, hp, rfl⟩ := (show R0 β (.ptr id off) (a.eval x) from g1)
    have g2 : a.eval i = .int kd j := by have := ho i (by rw [h]; simp [Op.operands]); rw [hi] at this; exact this.1
    refine ⟨.pointer (some ⟨p.b, p.d + off + j.toNat * k, none⟩), ?_, ⟨_, rfl, p, hp, by rw [Nat.add_assoc]⟩⟩
    unfold execOp; rw [h]
    simp [Instr.indexAt, run_underlying hu, g2, asIntOf, Instr.sureAddr, e, run_sz hk, h0, h1, Addr.add_lit]

theorem POp.indexSl {t : TypeId} {x i : Operand} {id off len z : Nat} {top : Bool} {cap : Option Nat} {el : TypeId} {kd : IntKind} {j : Int} (h : o.op = .indexAddr t x i) (hx : opd fr x = .sl id off len z top cap) (hi : opd fr i = .sc (.int kd j)) (hu : P.underlying t = some (.slice el))
    (hk : sz P el = some z) (h0 : 0 ≤ j) (h1 : j < len) : POp P o fr ((.ptr id (off + j.toNat * z))) :=
  fun β a w ho => by
    have g1 := ho x (by rw [h]; simp [Op.operands])
    rw [hx] at g1
    obtain ⟨p, c, hp, d', e, hd', _⟩ := (show R0 β (.sl id off len z top cap) (a.eval x) from g1)
    obtain rfl : d' = p.d + off := by rcases hd' with h' | ⟨h', _⟩; exact h'; omega
    have g2 : a.eval i = .int kd j := by have := ho i (by rw [h]; simp [Op.operands]); rw [hi] at this; exact this.1
    refine ⟨.pointer (some ⟨p.b, p.d + off + j.toNat * z, none⟩), ?_, ⟨_, rfl, p, hp, by rw [Nat.add_assoc]⟩⟩
    unfold execOp; rw [h]
    simp [Instr.indexAt, run_underlying hu, g2, asIntOf, e, run_sz hk, h0, h1, Addr.add_lit]

/-! ### parts of a value -/
theorem run_part {β : Bt} {w : World} {t off : Nat} {cs : List V} {xs : Array Value} {v : V} (hf : F2 (R1 β) cs xs.toList) (hp : part P t cs off = some v) : ∃ x, (Go.part t xs off).run P w = .ok x w ∧ R2 β v x := by
  unfold part at hp
  split at hp
  · rename_i d k hd hk
    split at hp
    · rename_i hag
      split at hp
      · cases hp
        refine ⟨.agg (xs.extract off (off + k)), by simp [Go.part, run_isAg hd, hag, run_sz hk], _, rfl, ?_⟩
        have := (hf.drop off).take k
        simpa [Array.toList_extract, List.extract_eq_take_drop, List.extract] using this
      · cases hp
    · rename_i hag
      obtain ⟨x, hx, hR⟩ := hf.get off v hp
      have hag' : isAg (some d) = false := by simpa using hag
      have hx' : xs[off]? = some x := by simpa using hx
      exact ⟨x, by simp [Go.part, run_isAg hd, hag', hx'], hR.up⟩
  · cases hp

theorem POp.field {t : TypeId} {x : Operand} {f : Nat} {fs : Array Field} {fld : Field} {cs : List V} {v : V} (h : o.op = .field t x f) (hx : opd fr x = .agg cs) (hu : P.underlying t = some (.struct fs)) (hf : fs[f]? = some fld) (hv : part P fld.type cs fld.offset = some v) :
    POp P o fr (v) :=
  fun β a w ho => by
    have g1 := ho x (by rw [h]; simp [Op.operands])
    rw [hx] at g1
    obtain ⟨xs, e, hF⟩ := g1
    obtain ⟨y, hy, hR⟩ := run_part (P := P) (w := w) hF hv
    exact ⟨y, by unfold execOp; rw [h]; simp [Instr.field, run_underlying hu, hf, e, asAgg, hy], hR.up⟩

theorem POp.indexV {t : TypeId} {x i : Operand} {len k : Nat} {el : TypeId} {cs : List V} {v : V} {kd : IntKind} {j : Int} (h : o.op = .index t x i) (hx : opd fr x = .agg cs) (hi : opd fr i = .sc (.int kd j)) (hu : P.underlying t = some (.array len el))
    (hk : sz P el = some k) (h0 : 0 ≤ j) (h1 : j < len) (hv : part P el cs (j.toNat * k) = some v) : POp P o fr (v) :=
  fun β a w ho => by
    have g1 := ho x (by rw [h]; simp [Op.operands])
    rw [hx] at g1
    obtain ⟨xs, e, hF⟩ := g1
    have g2 : a.eval i = .int kd j := by have := ho i (by rw [h]; simp [Op.operands]); rw [hi] at this; exact this.1
    obtain ⟨y, hy, hR⟩ := run_part (P := P) (w := w) hF hv
    exact ⟨y, by unfold execOp; rw [h]; simp [Instr.index, run_underlying hu, g2, asIntOf, e, run_sz hk, h0, h1, hy], hR.up⟩

/-! ### aggregates -/
theorem foldl_sets (off : Nat) : ∀ (l : List Value) (k : Nat) (cells : Array Value), off + k + l.length ≤ cells.size →
    ((l.zipIdx k).foldl (fun cs (x : Value × Nat) => cs.setIfInBounds (off + x.2) x.1) cells).toList = cells.toList.take (off + k) ++ l ++ cells.toList.drop (off + k + l.length)
  | [], k, cells, _ => by simp
  | y :: l, k, cells, h => by
    rw [List.zipIdx_cons, List.foldl_cons, foldl_sets off l (k + 1) _ (by simp at h ⊢; omega)]
    simp only [Array.toList_setIfInBounds, List.length_cons] at *
    apply List.ext_getElem?
    intro i
    have hl : (cells.toList).length = cells.size := by simp
    simp only [List.getElem?_append, List.getElem?_take, List.getElem?_drop, List.length_append, List.length_take, List.length_set, List.getElem?_set, List.length_cons, List.getElem?_cons, hl]
    repeat' split
    all_goals first | rfl | (exfalso; omega) | (congr 1; omega) | (simp_all; done) | (simp_all; omega)

end
end Go.Proofs.Ytnklnboglijcbaa.D
