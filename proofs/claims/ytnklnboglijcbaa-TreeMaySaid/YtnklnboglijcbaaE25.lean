/- Code and loops: letters replaced, what is asked and told in other words. Plain Lean over the kit's model; no program. -/
import Derived.Test.YtnklnboglijcbaaE24
namespace Go.Proofs.Ytnklnboglijcbaa.E
open Go Go.RowKit
set_option linter.unusedVariables false

def Ob.sub (o : Ob) (s : Sub) : Ob := ⟨o.row.sub s, o.rw, o.e⟩
def Sto.sub (σ : Sto) (s : Sub) : Sto := fun id => (σ id).map (·.sub s)
def Fm.sub (fr : Fm) (s : Sub) : Fm := fun t => (fr t).sub s
theorem Sto.sub_some {σ : Sto} {s : Sub} {id : Nat} {o : Ob} (h : σ.sub s id = some o) : ∃ o', σ id = some o' ∧ o = o'.sub s := by
  obtain ⟨o', h1, h2⟩ := Option.map_eq_some_iff.1 h
  exact ⟨o', h1, h2.symm⟩
theorem Sto.sub_mk {σ : Sto} {s : Sub} {id : Nat} {o : Ob} (h : σ id = some o) : σ.sub s id = some (o.sub s) := by
  unfold Sto.sub; rw [h]; rfl
theorem RH.sub {s : Sub} (hs : s.noix = true) (β : Bt) (r : Row) (xs : List Value) : RH β (r.sub s) xs ↔ RH (β.sub s) r xs := by
  cases r with
  | any cs => simp only [Row.sub, RH, V.subs_map]; exact F2.iff fun a x => R1.sub hs β a x
  | ints k l => exact Fr.sub hs (.ints k l) β.g xs
  | recs z n t => exact Fr.sub hs (.recs z n t) β.g xs
theorem Wr.sub {β : Bt} {σ : Sto} {s : Sub} {b : Nat} : Wr β (σ.sub s) b ↔ Wr (β.sub s) σ b := by
  constructor
  · rintro ⟨id, o, p, h1, h2, h3, h4⟩
    obtain ⟨o', k1, rfl⟩ := Sto.sub_some h1
    exact ⟨id, o', p, k1, h2, h3, h4⟩
  · rintro ⟨id, o, p, h1, h2, h3, h4⟩
    exact ⟨id, o.sub s, p, Sto.sub_mk h1, h2, h3, h4⟩
theorem ObOk.sub {s : Sub} (hs : s.noix = true) {β : Bt} {w : World} {q : Option Bl} {o : Ob} : ObOk β w q (o.sub s) ↔ ObOk (β.sub s) w q o := by
  cases q with
  | none => exact RH.sub hs β o.row []
  | some p =>
    refine and_congr Iff.rfl (exists_congr fun cur => exists_congr fun xs => exists_congr fun rest => exists_congr fun fz => and_congr Iff.rfl (and_congr Iff.rfl (and_congr Iff.rfl (and_congr (RH.sub hs β o.row xs) Iff.rfl))))
theorem Sim.sub {ρ : Env} {s : Sub} (hs : s.noix = true) {n : Nat} {β : Bt} {σ : Sto} {w : World} (hρ : β.g.env = ρ) : Sim ρ n β (σ.sub s) w ↔ Sim (ρ.sub s) n (β.sub s) σ w := by
  constructor
  · intro h
    refine ⟨⟨by rw [← hρ]; rfl, fun id o e => ?_, fun id o id' o' p p' e hr e' hne hp hp' => h.sep id _ id' _ p p' (Sto.sub_mk e) hr (Sto.sub_mk e') hne hp hp', fun b cs e => ?_, fun b c e => ?_⟩, h.fresh⟩
    · obtain ⟨q, h1, h2⟩ := h.ob id _ (Sto.sub_mk e)
      exact ⟨q, h1, (ObOk.sub hs).1 h2⟩
    · obtain ⟨h1, h2, h3⟩ := h.fzs b cs e
      exact ⟨h1, fun hc => h2 (Wr.sub.2 hc), h3⟩
    · obtain ⟨h1, h2⟩ := h.kvs b c e
      exact ⟨h1, fun hc => h2 (Wr.sub.2 hc)⟩
  · intro h
    refine ⟨⟨hρ, fun id o e => ?_, fun id o id' o' p p' e hr e' hne hp hp' => ?_, fun b cs e => ?_, fun b c e => ?_⟩, h.fresh⟩
    · obtain ⟨o', k1, rfl⟩ := Sto.sub_some e
      obtain ⟨q, h1, h2⟩ := h.ob id _ k1
      exact ⟨q, h1, (ObOk.sub hs).2 h2⟩
    · obtain ⟨o1, k1, rfl⟩ := Sto.sub_some e
      obtain ⟨o2, k2, rfl⟩ := Sto.sub_some e'
      exact h.sep id o1 id' o2 p p' k1 hr k2 hne hp hp'
    · obtain ⟨h1, h2, h3⟩ := h.fzs b cs e
      exact ⟨h1, fun hc => h2 (Wr.sub.1 hc), h3⟩
    · obtain ⟨h1, h2⟩ := h.kvs b c e
      exact ⟨h1, fun hc => h2 (Wr.sub.1 hc)⟩
theorem FrOk.sub {s : Sub} (hs : s.noix = true) {β : Bt} {fr : Fm} {nt : Nat} {a : Act} : FrOk β (Fm.sub fr s) nt a ↔ FrOk (β.sub s) fr nt a :=
  and_congr (forall_congr' fun t => R.sub hs β (fr t) _) Iff.rfl
/-- the letters that stood. -/
def Bt.back (β : Bt) (ρ : Env) : Bt := ⟨{ β.g with env := ρ }, β.nm⟩
theorem Bt.back_sub {β : Bt} {ρ : Env} {s : Sub} (h : β.g.env = ρ.sub s) : (β.back ρ).sub s = β := by
  obtain ⟨⟨e1, f1, k1⟩, n1⟩ := β
  simp only [Bt.sub, Gm.sub, Bt.back]
  simp only at h
  rw [h]
theorem Step.sub {ρ : Env} {s : Sub} {e : Nat} {β β' : Bt} {σ σ' : Sto} {w w' : World} (hρ : β.g.env = ρ) (hb : (β'.back ρ).sub s = β') (st : Step e (β.sub s) σ w β' σ' w') : Step e β (σ.sub s) w (β'.back ρ) (σ'.sub s) w' :=
  ⟨⟨⟨hρ.symm, st.le.g.fz, st.le.g.kv⟩, st.le.nm⟩, st.os, st.tape, st.output, st.size, fun b h1 h2 h3 => st.fr b h1 (fun hc => h2 (Wr.sub.2 hc)) h3,
   fun b hb' => by
     have := Wr.sub.1 hb'
     rw [hb] at this
     exact (st.own b this).imp_left Wr.sub.2,
   fun b cs h => (st.fzn b cs h).imp_right fun h => h.imp_left Wr.sub.2, fun b c h => (st.kvn b c h).imp_right fun h => h.imp_left Wr.sub.2⟩
section
variable {P : Program} {ρ : Env} {s : Sub} {e nt n n' k : Nat} {c : Code} {fr fr' : Fm} {σ σ' : Sto} {o : Out}
theorem TC.sub (hs : s.noix = true) (h : TC P (ρ.sub s) e nt c fr n σ o fr' n' σ') : TC P ρ e nt c (Fm.sub fr s) n (σ.sub s) o (Fm.sub fr' s) n' (σ'.sub s) := by
  intro β a w Q hS hF hQ
  refine h (β.sub s) a w Q ((Sim.sub hs hS.env).1 hS) ((FrOk.sub hs).1 hF) fun β' a' w' hS' hF' st => ?_
  have hb := Bt.back_sub (ρ := ρ) (s := s) hS'.env
  exact hQ (β'.back ρ) a' w' ((Sim.sub hs rfl).2 (by rw [hb]; exact hS')) ((FrOk.sub hs).2 (by rw [hb]; exact hF')) (Step.sub hS.env hb st)
theorem TR.sub (hs : s.noix = true) (h : TR P (ρ.sub s) e nt c k fr n σ o fr' n' σ') : TR P ρ e nt c k (Fm.sub fr s) n (σ.sub s) o (Fm.sub fr' s) n' (σ'.sub s) := by
  intro β a w Q hS hF hQ
  refine h (β.sub s) a w Q ((Sim.sub hs hS.env).1 hS) ((FrOk.sub hs).1 hF) fun β' a' w' hS' hF' st => ?_
  have hb := Bt.back_sub (ρ := ρ) (s := s) hS'.env
  exact hQ (β'.back ρ) a' w' ((Sim.sub hs rfl).2 (by rw [hb]; exact hS')) ((FrOk.sub hs).2 (by rw [hb]; exact hF')) (Step.sub hS.env hb st)
end

/-! ### in other words -/
/-- one value says all that another one says. -/
def V.imp (ρ : Env) (v v' : V) : Prop := ∀ (β : Bt) (x : Value), β.g.env = ρ → R β v x → R β v' x
def Fm.imp (ρ : Env) (fr fr' : Fm) : Prop := ∀ t, V.imp ρ (fr t) (fr' t)
def Row.imp (ρ : Env) (r r' : Row) : Prop := ∀ (β : Bt) (xs : List Value), β.g.env = ρ → RH β r xs → RH β r' xs
/-- the same objects, or fewer; each row says what is asked. -/
def Sto.imp (ρ : Env) (σ σ' : Sto) : Prop := ∀ id o', σ' id = some o' → ∃ o, σ id = some o ∧ o.rw = o'.rw ∧ o.e = o'.e ∧ Row.imp ρ o.row o'.row
theorem V.imp.refl (ρ : Env) (v : V) : V.imp ρ v v := fun _ _ _ h => h
theorem V.imp.und (ρ : Env) (v : V) : V.imp ρ v .und := fun _ _ _ _ => trivial
theorem V.imp.trans {ρ : Env} {a b c : V} (h : V.imp ρ a b) (h' : V.imp ρ b c) : V.imp ρ a c := fun β x e hr => h' β x e (h β x e hr)
theorem Fm.imp.refl (ρ : Env) (fr : Fm) : Fm.imp ρ fr fr := fun _ => V.imp.refl _ _
theorem Row.imp.refl (ρ : Env) (r : Row) : Row.imp ρ r r := fun _ _ _ h => h
theorem Sto.imp.refl (ρ : Env) (σ : Sto) : Sto.imp ρ σ σ := fun _ o h => ⟨o, h, rfl, rfl, Row.imp.refl _ _⟩
theorem Sto.imp.le {ρ : Env} {σ σ' : Sto} (h : σ'.le σ) : Sto.imp ρ σ σ' := fun id o h' => ⟨o, h id o h', rfl, rfl, Row.imp.refl _ _⟩
theorem Sto.imp.trans {ρ : Env} {a b c : Sto} (h : Sto.imp ρ a b) (h' : Sto.imp ρ b c) : Sto.imp ρ a c := fun id o hc => by
  obtain ⟨o1, k1, k2, k3, k4⟩ := h' id o hc
  obtain ⟨o2, l1, l2, l3, l4⟩ := h id o1 k1
  exact ⟨o2, l1, l2.trans k2, l3.trans k3, fun β xs e hr => k4 β xs e (l4 β xs e hr)⟩
theorem V.imp.int {ρ : Env} {k : IntKind} {a b : E} (h : a.den ρ = b.den ρ) : V.imp ρ (.int k a) (.int k b) := fun β x e hr => by
  rw [R_int hr, e, h]; exact R.mkInt β k (by rw [e])
theorem V.imp.bool {ρ : Env} {a b : B} (h : a.den ρ = b.den ρ) : V.imp ρ (.bool a) (.bool b) := fun β x e hr => by
  rw [R_bool hr, e, h]; exact R.mkBool β (by rw [e])
theorem Wr.imp {ρ : Env} {β : Bt} {σ σ' : Sto} (h : Sto.imp ρ σ σ') {b : Nat} (hw : Wr β σ' b) : Wr β σ b := by
  obtain ⟨id, o, p, h1, h2, h3, h4⟩ := hw
  obtain ⟨o', k1, k2, _⟩ := h id o h1
  exact ⟨id, o', p, k1, k2.trans h2, h3, h4⟩
theorem Sim.imp {ρ : Env} {n : Nat} {β : Bt} {σ σ' : Sto} {w : World} (hS : Sim ρ n β σ w) (h : Sto.imp ρ σ σ') : Sim ρ n β σ' w := by
  refine ⟨⟨hS.env, fun id o e => ?_, fun id o id' o' p p' e hr e' hne hp hp' => ?_, fun b cs e => ⟨(hS.fzs b cs e).1, fun hc => (hS.fzs b cs e).2.1 (hc.imp h), (hS.fzs b cs e).2.2⟩, fun b c e => ⟨(hS.kvs b c e).1, fun hc => (hS.kvs b c e).2 (hc.imp h)⟩⟩, hS.fresh⟩
  · obtain ⟨o1, k1, k2, k3, k4⟩ := h id o e
    obtain ⟨q, l1, l2⟩ := hS.ob id o1 k1
    refine ⟨q, l1, ?_⟩
    cases q with
    | none => exact k4 β [] hS.env l2
    | some p =>
      obtain ⟨m1, cur, xs, rest, fz, m2, m3, m4, m5, m6, m7⟩ := l2
      exact ⟨m1, cur, xs, rest, fz, by rw [← k3]; exact m2, m3, m4, k4 β xs hS.env m5, fun hr => m6 (k2.trans hr), fun hr => m7 (k2.trans hr)⟩
  · obtain ⟨o1, k1, k2, _⟩ := h id o e
    obtain ⟨o2, l1, _⟩ := h id' o' e'
    exact hS.sep id o1 id' o2 p p' k1 (k2.trans hr) l1 hne hp hp'
theorem Step.impEnd {ρ : Env} {e : Nat} {β β' : Bt} {σ σ' σ'' : Sto} {w w' : World} (st : Step e β σ w β' σ' w') (h : Sto.imp ρ σ' σ'') : Step e β σ w β' σ'' w' :=
  ⟨st.le, st.os, st.tape, st.output, st.size, st.fr, fun b hb => st.own b (hb.imp h), st.fzn, st.kvn⟩
theorem Step.impAt {ρ : Env} {e : Nat} {β β' : Bt} {σ τ σ' : Sto} {w w' : World} (st : Step e β τ w β' σ' w') (h : Sto.imp ρ σ τ) : Step e β σ w β' σ' w' :=
  ⟨st.le, st.os, st.tape, st.output, st.size, fun b h1 h2 h3 => st.fr b h1 (fun hc => h2 (hc.imp h)) h3, fun b hb => (st.own b hb).imp_left (·.imp h), fun b cs hb => (st.fzn b cs hb).imp_right fun x => x.imp_left (·.imp h), fun b c hb => (st.kvn b c hb).imp_right fun x => x.imp_left (·.imp h)⟩
theorem FrOk.imp {ρ : Env} {β : Bt} {fr fr' : Fm} {nt : Nat} {a : Act} (hF : FrOk β fr nt a) (he : β.g.env = ρ) (h : Fm.imp ρ fr fr') : FrOk β fr' nt a := ⟨fun t => h t β _ he (hF.1 t), hF.2⟩
section
variable {P : Program} {ρ : Env} {e nt n n' k : Nat} {c : Code} {fr fr' gr gr' : Fm} {σ σ' τ τ' : Sto} {o : Out}
theorem TC.imp (h : TC P ρ e nt c fr n σ o fr' n' σ') (h1 : Fm.imp ρ gr fr) (h2 : Sto.imp ρ τ σ) (h3 : Fm.imp ρ fr' gr') (h4 : Sto.imp ρ σ' τ') : TC P ρ e nt c gr n τ o gr' n' τ' :=
  fun β a w Q hS hF hQ => h β a w Q (hS.imp h2) (hF.imp hS.env h1) fun β' a' w' hS' hF' st => hQ β' a' w' (hS'.imp h4) (hF'.imp hS'.env h3) ((st.impEnd h4).impAt h2)
theorem TR.imp (h : TR P ρ e nt c k fr n σ o fr' n' σ') (h1 : Fm.imp ρ gr fr) (h2 : Sto.imp ρ τ σ) (h3 : Fm.imp ρ fr' gr') (h4 : Sto.imp ρ σ' τ') : TR P ρ e nt c k gr n τ o gr' n' τ' :=
  fun β a w Q hS hF hQ => h β a w Q (hS.imp h2) (hF.imp hS.env h1) fun β' a' w' hS' hF' st => hQ β' a' w' (hS'.imp h4) (hF'.imp hS'.env h3) ((st.impEnd h4).impAt h2)
theorem Spec.imp {g : FuncId} {args : List V} {r r' : V} (h : Spec P ρ g args n σ r n' σ') (hr : V.imp ρ r r') : Spec P ρ g args n σ r' n' σ' :=
  ⟨h.there, fun β xs w hS hA => (h.calls β xs w hS hA).mono fun e w' ⟨x, β', he, hR, hS', st⟩ => ⟨x, β', he, hr β' x hS'.env hR, hS', st⟩⟩
end
/-- a contract's result in other words. -/
theorem Con.alt {P : Program} {g : FuncId} {args : List V} {t t' : T (V × List B)} (h : ConOk P ⟨g, args, t⟩)
    (he : ∀ ρ r' bs', t'.pick ρ = some (r', bs') → okOk ρ bs' → ∃ r bs, t.pick ρ = some (r, bs) ∧ okOk ρ bs ∧ V.imp ρ r r') : ConOk P ⟨g, args, t'⟩ := by
  intro ρ r' bs' hp hb m
  obtain ⟨r, bs, h1, h2, h3⟩ := he ρ r' bs' hp hb
  exact (h ρ r bs h1 h2 m).imp h3
end Go.Proofs.Ytnklnboglijcbaa.E
