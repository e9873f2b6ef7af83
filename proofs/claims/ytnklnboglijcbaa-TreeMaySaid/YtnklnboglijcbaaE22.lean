/- Results without names; laws. Plain Lean over the kit's model; no program. -/
import Derived.Test.YtnklnboglijcbaaE21
import GoSem.ClaimWide
namespace Go.Proofs.Ytnklnboglijcbaa.E
open Go Go.RowKit
set_option linter.unusedVariables false

/-- a value that names nothing. -/
def V.closed (v : V) : Bool := v.inn fun _ => false
theorem R.closed {β β' : Bt} (hg : β.g.le β'.g) {v : V} {x : Value} (hv : v.closed = true) (h : R β v x) : R β' v x := R.names hg (p := fun _ => false) (fun _ h => by cases h) h hv
theorem F2.closed {β β' : Bt} (hg : β.g.le β'.g) {vs : List V} {xs : List Value} (hv : vs.all V.closed = true) (h : F2 (R β) vs xs) : F2 (R β') vs xs := by
  rw [List.all_eq_true] at hv
  exact h.mono_mem fun v x hm hr => hr.closed hg (hv v hm)
/-- a result by what stands where it points. -/
def V.var2 : V → Bool
  | .und | .tup _ => false
  | _ => true
theorem R.var2 {β : Bt} {v : V} {x : Value} (h : R β v x) (hv : v.var2 = true) : R2 β v x := R2.of h (by rintro rfl; cases hv) (by rintro vs rfl; cases hv)
def deepT (σ : Sto) (k : Nat) (v : V) : Option V := match v with
  | .tup vs => match deepsA σ k vs with
    | some us => if us.all V.var2 then some (.tup us) else none
    | none => none
  | v => deepA σ k v
theorem deepT_ok {ρ : Env} {n : Nat} {β β' : Bt} {σ : Sto} {w : World} (hS : Sim ρ n β σ w) {k : Nat} {v v' : V} {x : Value} (hg : β'.g = β.g) (h : deepT σ k v = some v') (hR : R β v x) : R β' v' x := by
  unfold deepT at h
  split at h
  · split at h
    · rename_i us hus
      split at h
      · rename_i hv
        cases h
        obtain ⟨xs, rfl, hF⟩ := (show R β (.tup _) x from hR)
        refine ⟨xs, rfl, ?_⟩
        rw [List.all_eq_true] at hv
        exact (deepsA_ok hS hg hus (hF.mono fun _ _ h => h.up)).mono_mem fun v x hm hr => hr.var2 (hv v hm)
      · cases h
    · cases h
  · exact deepA_ok hS hg h hR

/-- a contract whose arguments name nothing, for any number of names; its result by what stands where it points. -/
theorem Spec.shut {P : Program} {ρ : Env} {g : FuncId} {args : List V} {r r' : V} {n' k : Nat} {σ' : Sto} {D : List Nat} (h : Spec P ρ g args 0 no r n' σ') (ha : args.all V.closed = true) (hr : deepT (frz D σ') k r = some r') (m : Nat) : Spec P ρ g args m no r' m no := by
  refine ⟨h.there, fun β xs w hS hA => ?_⟩
  let β0 : Bt := ⟨β.g, fun _ => none⟩
  have nowr : ∀ (β : Bt) b, ¬ Wr β no b := fun β b ⟨_, _, _, e, _⟩ => by cases e
  have hS0 : Sim ρ 0 β0 no w := ⟨⟨hS.env, fun _ _ e => (by cases e), fun _ _ _ _ _ _ e => (by cases e), fun b cs hb => ⟨(hS.fzs b cs hb).1, nowr _ b, (hS.fzs b cs hb).2.2⟩, fun b c hb => ⟨(hS.kvs b c hb).1, nowr _ b⟩⟩, fun _ _ => rfl⟩
  refine (h.calls β0 xs w hS0 (F2.closed (β := β) (β' := β0) (Gm.le.refl _) ha hA)).mono ?_
  rintro e w' ⟨x, β1, he, hR, hS1, st⟩
  obtain ⟨β2, h1, h2, h3, h4, h5, h6⟩ := freeze_ok hS1 D
  have st2 := st.trans (h5 0)
  let β3 : Bt := ⟨β2.g, β.nm⟩
  refine ⟨x, β3, he, deepT_ok h4 rfl hr (hR.mono h3), ⟨⟨h4.env, fun _ _ e => (by cases e), fun _ _ _ _ _ _ e => (by cases e), fun b cs hb => ⟨(h4.fzs b cs hb).1, nowr _ b, (h4.fzs b cs hb).2.2⟩, fun b c hb => ⟨(h4.kvs b c hb).1, nowr _ b⟩⟩, hS.fresh⟩,
    ⟨⟨st2.le.g, fun id q _ hq => hq⟩, st2.os, st2.tape, st2.output, st2.size, fun b hb _ hk => st2.fr b hb (nowr _ b) hk, fun b hb => (nowr _ b hb).elim, fun b cs hb => ?_, fun b c hb => ?_⟩⟩
  · rcases st2.fzn b cs hb with h | h | h
    · exact .inl h
    · exact (nowr _ b h).elim
    · exact .inr (.inr h)
  · rcases st2.kvn b c hb with h | h | h
    · exact .inl h
    · exact (nowr _ b h).elim
    · exact .inr (.inr h)

/-! ### what is left to show -/
def T.map {α β : Type} (f : α → β) (t : T α) : T β := match t with
  | .leaf a => .leaf (f a)
  | .br b l r => .br b (l.map f) (r.map f)
  | .dead => .dead
def mkImp (a b : B) : B := mkNot (mkAnd a (mkNot b))
theorem mkImp_den (ρ : Env) (a b : B) : (mkImp a b).den ρ = (!a.den ρ || b.den ρ) := by
  simp only [mkImp, mkNot_den, mkAnd_den]
  cases a.den ρ <;> cases b.den ρ <;> rfl
/-- that it answers 'true', all along. -/
def want : T (V × St) → B
  | .leaf (.bool b, s) => mkAnd (andsB s.ok) b
  | .br c l r => mkAnd (mkImp c (want l)) (mkImp (mkNot c) (want r))
  | _ => .lit false
theorem want_ok {ρ : Env} : ∀ {t : T (V × St)}, (want t).den ρ = true → ∃ b s, t.pick ρ = some (.bool b, s) ∧ b.den ρ = true ∧ okOk ρ s.ok
  | .leaf (.bool b, s), h => by
    simp only [want, mkAnd_den, Bool.and_eq_true] at h
    exact ⟨b, s, rfl, h.2, (andsB_den ρ _).1 h.1⟩
  | .br c l r, h => by
    simp only [want, mkAnd_den, mkImp_den, mkNot_den, Bool.and_eq_true] at h
    cases hc : c.den ρ with
    | true =>
      rw [hc] at h
      obtain ⟨b, s, h1, h2⟩ := want_ok (t := l) (by simpa using h.1)
      exact ⟨b, s, by simp only [T.pick, hc, cond_true]; exact h1, h2⟩
    | false =>
      rw [hc] at h
      obtain ⟨b, s, h1, h2⟩ := want_ok (t := r) (by simpa using h.2)
      exact ⟨b, s, by simp only [T.pick, hc, cond_false]; exact h1, h2⟩
  | .dead, h => by simp [want, B.den] at h
  | .leaf (.und, s), h | .leaf (.sc _, s), h | .leaf (.int _ _, s), h | .leaf (.str _, s), h | .leaf (.ptr _ _ _ _, s), h | .leaf (.sl _ _ _ _ _ _, s), h | .leaf (.fs _ _, s), h | .leaf (.fe _ _ _ _, s), h
  | .leaf (.key _ _, s), h | .leaf (.agg _, s), h | .leaf (.tup _, s), h | .leaf (.fn _ _ _, s), h => by simp [want, B.den] at h
theorem exec_law {P : Program} {ρ : Env} (hm : P.follows .mixedOrders = true) {tt : TT} (htt : TTOk P ρ tt) {lp : FuncId → LT} (hlp : LPOk P ρ lp) {fuel depth : Nat} {g : FuncId} {args : List V} {xs : List Value}
    (h : (want (exec P tt lp fuel depth g args)).den ρ = true) (W : World) (hA : F2 (R (allFz ρ W)) args xs) :
    Calls P g xs.toArray W (fun e W' => e = .returned (.bool true) ∧ Below W.heap.size W W') := by
  obtain ⟨b, s, h1, h2, h3⟩ := want_ok h
  exact (exec_ok hm htt hlp h1 h3).law h2 W hA

/-! ### contracts -/
structure Con where
  g : FuncId
  args : List V
  t : T (V × List B)
def ConOk (P : Program) (c : Con) : Prop := ∀ ρ r bs, c.t.pick ρ = some (r, bs) → okOk ρ bs → ∀ m, Spec P ρ c.g c.args m no r m no
def shutT (t : T (V × St)) : T (V × List B) := t.bind fun q => match deepT (frz (reach q.2.σ 1000 q.1.ids []) q.2.σ) 60 q.1 with
  | some r => .leaf (r, q.2.ok)
  | none => .dead
theorem Con.ofExec {P : Program} (hm : P.follows .mixedOrders = true) {tt : TT} (htt : ∀ ρ, TTOk P ρ tt) {lp : FuncId → LT} (hlp : ∀ ρ, LPOk P ρ lp) {fuel depth : Nat} {g : FuncId} {args : List V} {t : T (V × List B)}
    (ha : args.all V.closed = true) (h : shutT (exec P tt lp fuel depth g args) = t) : ConOk P ⟨g, args, t⟩ := by
  intro ρ r bs hp hb m
  rw [← h] at hp
  unfold shutT at hp
  obtain ⟨q, h1, h2⟩ := T.bind_some hp
  obtain ⟨r0, s⟩ := q
  simp only at h2
  split at h2
  · rename_i r1 hr
    simp only [T.pick, Option.some.injEq, Prod.mk.injEq] at h2
    obtain ⟨rfl, rfl⟩ := h2
    exact (exec_ok hm (htt ρ) (hlp ρ) h1 hb).shut ha hr m
  · cases h2

/-! ### a law's arguments -/
theorem open_num {P : Program} {w : World} {r : Reach} {b t : Nat} {k : IntKind} {v : Value} (ht : P.underlying t = some (.int k)) (h : Value.okWide P w r b t v) : ∃ n, v = .int k n ∧ k.has n := by
  simp only [Value.okWide, ht, Cell.okWide] at h
  cases v <;> simp [Cell.ok, ht] at h
  obtain ⟨rfl, h⟩ := h
  exact ⟨_, rfl, h⟩
theorem open_flag {P : Program} {w : World} {r : Reach} {b t : Nat} {v : Value} (ht : P.underlying t = some .bool) (h : Value.okWide P w r b t v) : ∃ n, v = .bool n := by
  simp only [Value.okWide, ht, Cell.okWide] at h
  cases v <;> simp [Cell.ok, ht] at h
  exact ⟨_, rfl⟩
/-- the cells of an aggregate of numbers of one kind. -/
theorem open_nums {P : Program} {w : World} {r : Reach} {b t N : Nat} {k : IntKind} {v : Value} (hag : isAg (P.underlying t) = true) (hN : P.cellsOf t = N) (hc : (match P.cellTypes P.depth t with
      | some ts => ts.length == N && Nat.blt 0 N && ts.all fun u => match P.underlying u with | some (.int k') => decide (k' = k) | _ => false
      | none => false) = true) (h : Value.okWide P w r b t v) :
    ∃ z : Nat → Int, v = .agg ((List.range N).map fun i => .int k (z i)).toArray ∧ ∀ i, i < N → k.has (z i) := by
  have h' : ∃ cs, v = .agg cs ∧ cs.size = P.cellsOf t ∧ Row.okWide P w r b t cs := by
    unfold Value.okWide at h
    cases hu : P.underlying t with
    | none => rw [hu] at hag; cases hag
    | some d => rw [hu] at h hag; cases d <;> first | exact h | cases hag
  obtain ⟨cs, rfl, hsz, ts, hts, _, hall⟩ := h'
  rw [hts] at hc
  simp only [Bool.and_eq_true, beq_iff_eq, List.all_eq_true] at hc
  obtain ⟨⟨hl, hpos⟩, hk⟩ := hc
  have cell : ∀ i, i < N → ∃ n, cs[i]? = some (.int k n) ∧ k.has n := by
    intro i hi
    have hi' : i < cs.size := by omega
    obtain ⟨u, hu, hok⟩ := hall i cs[i] (by simp [hi'])
    have hm := hk u (List.mem_of_getElem? hu)
    split at hm
    · rename_i k' hku
      have : k' = k := by simpa using hm
      subst this
      have hok' : ∃ n, cs[i] = .int k' n ∧ k'.has n := by
        revert hok
        simp only [Cell.okWide, hku]
        cases cs[i] <;> simp [Cell.ok, hku]
        intro e hn; subst e; exact ⟨_, ⟨rfl, rfl⟩, hn⟩
      obtain ⟨n, hn, hn2⟩ := hok'
      exact ⟨n, by simp [hi', hn], hn2⟩
    · cases hm
  refine ⟨fun i => match cs[i]? with | some (.int _ n) => n | _ => 0, ?_, ?_⟩
  · congr 1
    apply Array.ext'
    apply List.ext_getElem?
    intro i
    by_cases hi : i < N
    · obtain ⟨n, hn, _⟩ := cell i hi
      have hn' : cs.toList[i]? = some (.int k n) := by simpa using hn
      rw [hn']
      simp [hi, hn]
    · rw [List.getElem?_eq_none (by simp; omega), List.getElem?_eq_none (by simp; omega)]
  · intro i hi
    obtain ⟨n, hn, hn2⟩ := cell i hi
    simp only [hn]; exact hn2

/-- letters for numbers of one kind, from the o-th on. -/
def lets (k : IntKind) (o n : Nat) : List V := (List.range n).map fun i => .int k (.conv k (.var (o + i)))
theorem R_lets {β : Bt} {k : IntKind} {o n : Nat} {z : Nat → Int} (hz : ∀ i, i < n → k.has (z i)) (he : ∀ i, i < n → β.g.env.e (o + i) = z i) : R β (.agg (lets k o n)) (.agg ((List.range n).map fun i => .int k (z i)).toArray) :=
  ⟨_, rfl, by
    simpa [lets] using F2.map (r := R1 β) (fun i => V.int k (.conv k (.var (o + i)))) (fun i => Value.int k (z i)) (List.range n) fun i hi => by
      have hi' : i < n := by simpa using hi
      show Value.int k (z i) = .int k ((E.conv k (.var (o + i))).den β.g.env)
      simp only [E.den, he i hi', wrap_has (hz i hi')]⟩
theorem R_let {β : Bt} {k : IntKind} {o : Nat} {z : Int} (hz : k.has z) (he : β.g.env.e o = z) : R β (.int k (.conv k (.var o))) (.int k z) :=
  R.mkInt _ _ (by simp only [E.den, he, wrap_has hz])
theorem int_cases (z : Int) (b : Nat) : (∃ m, z = .negSucc m) ∨ (∃ i, i < b ∧ z = .ofNat i) ∨ (∃ m, z = .ofNat (m + b)) := by
  rcases z with n | n
  · by_cases h : n < b
    · exact .inr (.inl ⟨n, h, rfl⟩)
    · exact .inr (.inr ⟨n - b, by congr 1; omega⟩)
  · exact .inl ⟨n, rfl⟩
/-- no letters. -/
def env0 : Env := ⟨fun _ => 0, fun _ => [], fun _ => [], fun _ => false, 0⟩
end Go.Proofs.Ytnklnboglijcbaa.E
