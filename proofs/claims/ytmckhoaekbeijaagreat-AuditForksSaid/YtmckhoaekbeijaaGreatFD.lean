/- Loops by their rounds. Plain Lean over the kit's model; no program. -/
import Derived.Test.YtmckhoaekbeijaaGreatFC
import Derived.ChangeArms
import GoSem.ClaimJoined
import Derived.OpenShut
import Derived.Lib.SliceRun
import Derived.Test.YtmckhoaekbeijaaGreatFA
namespace Go.Proofs.YtmckhoaekbeijaaGreat.E
open Go Go.RowKit
set_option linter.unusedVariables false

def cutOb (σ : Sto) : List Nat → Option (List (Nat × Ob))
  | [] => some []
  | id :: l => match σ id, cutOb σ l with
    | some o, some r => some ((id, o) :: r)
    | _, _ => none
def cutS (sl obs : List Nat) (q : Out × St) : T LRes := match cutOb q.2.σ obs with
  | some ob => .leaf ⟨q.1, sl.map fun t => (t, q.2.fr t), q.2.n, ob, q.2.ok⟩
  | none => .dead
def cutT (sl obs : List Nat) (t : T (Out × St)) : T LRes := t.bind (cutS sl obs)
theorem frOf_cut {ρ : Env} (fr : Fm) (sl : List Nat) : Fm.imp ρ fr (fmOf (frOf (sl.map fun t => (t, fr t)))) := by
  intro t
  unfold fmOf
  cases hg : (frOf (sl.map fun t => (t, fr t))).get t with
  | none => exact V.imp.und _ _
  | some v =>
    obtain ⟨u, _, hu⟩ := List.mem_map.1 (frOf_get _ _ _ hg)
    cases hu
    exact V.imp.refl _ _
theorem cutOb_le (σ : Sto) : ∀ {l : List Nat} {r : List (Nat × Ob)}, cutOb σ l = some r → Sto.le (obOf r).get σ
  | [], r, h => by cases h; exact fun id o e => by cases e
  | i :: l, r, h => by
    unfold cutOb at h
    split at h
    · rename_i o r' ho hr
      cases h
      intro id o' e
      unfold obOf at e
      rw [Tr.get_put] at e
      split at e
      · rename_i hid; cases e; rw [hid]; exact ho
      · exact cutOb_le σ hr id o' e
    · cases h

/-- what stands at a loop's head: slots, objects, told by letters. Names below 'n0' stay; the others, 'n0', n0 + 1, .., are given anew each round: 'pm' says what they are called behind a round. -/
structure LHead where
  fr : List (Nat × V)
  n0 : Nat
  pm : List Nat
  ob : List (Nat × Ob)
def LHead.n (H : LHead) : Nat := H.n0 + H.pm.length
def LHead.π (H : LHead) (id : Nat) : Nat := if Nat.blt id H.n0 then id else H.pm.getD (id - H.n0) 0
inductive LEnd where
  | go (q : Sub) (ok : List B)
  | out (r : LRes)
/-- names differ. -/
def apartN : List Nat → Bool
  | [] => true
  | a :: l => !l.contains a && apartN l
theorem apartN_ok {α : Type} (f : α → Nat) : ∀ {l : List α}, apartN (l.map f) = true → ∀ x ∈ l, ∀ y ∈ l, f x = f y → x = y
  | [], _, x, hx, _, _, _ => by cases hx
  | a :: l, h, x, hx, y, hy, e => by
    simp only [List.map_cons, apartN, Bool.and_eq_true, Bool.not_eq_true', List.contains_eq_mem, decide_eq_false_iff_not] at h
    rcases List.mem_cons.1 hx with hx' | hx' <;> rcases List.mem_cons.1 hy with hy' | hy'
    · rw [hx', hy']
    · exact (h.1 (List.mem_map.2 ⟨y, hy', by rw [← e, hx']⟩)).elim
    · exact (h.1 (List.mem_map.2 ⟨x, hx', by rw [e, hy']⟩)).elim
    · exact apartN_ok f h.2 x hx' y hy' e
/-- what a round ends in: the head again, for other letters; or out of the loop. -/
def headS (H : LHead) (osl oob : List Nat) (q : Out × St) : T LEnd := match q.1 with
  | .normal => match rowsOf q.2.σ (H.ob.map fun p => (H.π p.1, ⟨p.2.row.ren H.π, p.2.rw, p.2.e⟩)) with
    | none => .dead
    | some rs =>
      let pats := H.fr.map fun p => p.2.ren H.π
      let obs : List (Nat × Ob) := H.ob.map fun p => (H.π p.1, ⟨p.2.row.ren H.π, p.2.rw, p.2.e⟩)
      let vs := fitsA pats (H.fr.map fun p => q.2.fr p.1)
      let s := (matsR obs rs (V.mats pats vs mt0)).done
      if s.noix && V.sames (V.subs pats s) vs && samesR s obs rs then .leaf (.go s q.2.ok) else .dead
  | o => match cutOb q.2.σ oob with
    | some ob => .leaf (.out ⟨o, osl.map fun t => (t, q.2.fr t), q.2.n, ob, q.2.ok⟩)
    | none => .dead
/-- is the head well told? -/
def LHead.ok (H : LHead) : Bool := H.fr.all (fun p => p.2.inn (lower H.n)) && H.ob.all (fun p => Nat.blt p.1 H.n && p.2.row.inn (lower H.n)) && apartN (H.ob.map fun p => H.π p.1)
def roundH (P : Program) (cf : Cf) (fuel depth g id : Nat) (H : LHead) (kn : Kn) (osl oob : List Nat) : T LEnd :=
  bif H.ok then (roundT P cf fuel depth g id H.fr H.n H.ob kn).bind (headS H osl oob) else .dead

theorem obOf_mem {l : List (Nat × Ob)} {id : Nat} {o : Ob} (h : (obOf l).get id = some o) : (id, o) ∈ l := obOf_get l id o h
theorem frOf_none {l : List (Nat × V)} {t : Nat} (h : ∀ v, (t, v) ∉ l) : fmOf (frOf l) t = .und := by
  unfold fmOf
  cases hg : (frOf l).get t with
  | none => rfl
  | some v => exact (h v (frOf_get l t v hg)).elim
theorem head_ren {ρ : Env} {H : LHead} (hok : H.ok = true) {osl oob : List Nat} {q : Out × St} {s : Sub} {ok : List B} (h : headS H osl oob q = .leaf (.go s ok)) :
    q.1 = .normal ∧ ok = q.2.ok ∧ s.nix ∧ Ren ρ H.n0 H.π q.2.fr q.2.σ (fmOf (frOf (H.fr.map fun p => (p.1, p.2.sub s)))) H.n (obOf (H.ob.map fun p => (p.1, p.2.sub s))).get := by
  unfold headS at h
  split at h
  · rename_i hq
    split at h
    · cases h
    · rename_i rs hrs
      simp only at h
      generalize hs : (matsR _ rs _).done = s' at h
      split at h
      · rename_i hc
        simp only [Bool.and_eq_true] at hc
        cases h
        simp only [LHead.ok, Bool.and_eq_true, List.all_eq_true] at hok
        refine ⟨hq, rfl, Sub.noix_ok hc.1.1, ⟨fun id hid => ?_, by unfold LHead.n; omega, fun t => ?_, fun id o2 h2 => ?_, fun id id' o o' h1 h2 e => ?_⟩⟩
        · unfold LHead.π; rw [if_pos (by simp [Nat.blt]; omega)]
        · unfold fmOf
          cases hg : (frOf (H.fr.map fun p => (p.1, p.2.sub s))).get t with
          | none => exact ⟨V.imp.und _ _, rfl⟩
          | some v =>
            obtain ⟨p, hp1, hp2⟩ := List.mem_map.1 (frOf_get _ _ _ hg)
            cases hp2
            refine ⟨?_, by rw [V.inn_sub]; exact hok.1.1 p hp1⟩
            rw [← V.ren_sub]
            have hsm := V.sames_ok hc.1.2
            have := imps_fr (ρ := ρ) (fr := q.2.fr) (s := s) (l := H.fr.map fun p => (p.1, p.2.ren H.π)) (by rw [List.map_map, List.map_map]; exact hsm) (p.1, p.2.ren H.π) (List.mem_map.2 ⟨p, hp1, rfl⟩)
            exact this
        · obtain ⟨p, hp1, hp2⟩ := List.mem_map.1 (obOf_get _ _ _ h2)
          cases hp2
          have hp := hok.1.2 p hp1
          obtain ⟨o, k1, k2, k3, k4⟩ := imps_ob (ρ := ρ) hrs hc.2 (H.π p.1, ⟨p.2.row.ren H.π, p.2.rw, p.2.e⟩) (List.mem_map.2 ⟨p, hp1, rfl⟩)
          refine ⟨Nat.le_of_ble_eq_true hp.1, by rw [show (p.2.sub s).row = p.2.row.sub s from rfl, Row.inn_sub]; exact hp.2, o, k1, k2, k3, ?_⟩
          show Row.imp ρ o.row ((p.2.row.sub s).ren H.π)
          rw [← Row.ren_sub]; exact k4
        · obtain ⟨p, hp1, hp2⟩ := List.mem_map.1 (obOf_get _ _ _ h1)
          obtain ⟨p', hp1', hp2'⟩ := List.mem_map.1 (obOf_get _ _ _ h2)
          cases hp2; cases hp2'
          have := apartN_ok (fun p : Nat × Ob => H.π p.1) hok.2 p hp1 p' hp1' e
          rw [this]
      · cases h
  · split at h <;> cases h

/-- what a contract says, one saying all that another one says. -/
structure LRes.imp (ρ : Env) (a b : LRes) : Prop where
  o : a.o = b.o
  n : a.n = b.n
  fr : Fm.imp ρ (fmOf (frOf a.fr)) (fmOf (frOf b.fr))
  ob : Sto.imp ρ (obOf a.ob).get (obOf b.ob).get
def LRes.subst (r : LRes) (s : Sub) : LRes := ⟨r.o, r.fr.map fun p => (p.1, p.2.sub s), r.n, r.ob.map fun p => (p.1, p.2.sub s), r.ok⟩

/-- **Loops by their rounds.** -/
theorem rounds_ok {P : Program} (hm : P.follows .mixedOrders = true) {cf : Cf} (hcf : CfOk P cf) {fuel depth g id nt : Nat} {a : Code} (ha : theLoop P g id = some (nt, a)) {H : LHead} {kn : Kn} {osl oob : List Nat} {t : T LEnd} (hr : roundH P cf fuel depth g id H kn osl oob = t)
    (I : Env → Prop) (μ : Env → Nat) (res : T LRes) (hkn : ∀ ρ, I ρ → knOk ρ kn)
    (step : ∀ ρ r, I ρ → res.pick ρ = some r → ∃ q, t.pick ρ = some q ∧ match q with
      | .go s ok => okOk ρ ok ∧ (s.nix → I (ρ.sub s) ∧ μ (ρ.sub s) < μ ρ ∧ ∃ r', res.pick (ρ.sub s) = some r' ∧ LRes.imp ρ (r'.subst s) r)
      | .out r' => okOk ρ r'.ok ∧ LRes.imp ρ r' r ∧ r'.o ≠ .normal) :
    ∀ ρ r, I ρ → res.pick ρ = some r → ∃ k, TR P ρ H.n0 nt a k (fmOf (frOf H.fr)) H.n (obOf H.ob).get r.o (fmOf (frOf r.fr)) r.n (obOf r.ob).get := by
  have key : ∀ m ρ r, μ ρ = m → I ρ → res.pick ρ = some r → ∃ k, TR P ρ H.n0 nt a k (fmOf (frOf H.fr)) H.n (obOf H.ob).get r.o (fmOf (frOf r.fr)) r.n (obOf r.ob).get := by
    intro m
    induction m using Nat.strongRecOn with
    | _ m ih =>
      intro ρ r hm' hI hres
      obtain ⟨q, hq1, hq2⟩ := step ρ r hI hres
      rw [← hr] at hq1
      unfold roundH at hq1
      cases hok : H.ok with
      | false => rw [hok] at hq1; cases hq1
      | true =>
        rw [hok, cond_true] at hq1
        obtain ⟨z, h1, h2⟩ := T.bind_some hq1
        obtain ⟨o, s'⟩ := z
        obtain ⟨k1, k2⟩ := round_ok hm hcf ha (hkn ρ hI) h1
        cases q with
        | go s ok =>
          have hleaf : headS H osl oob (o, s') = .leaf (.go s ok) := by
            unfold headS at h2 ⊢
            split at h2
            · split at h2
              · cases h2
              · simp only at h2 ⊢
                split at h2
                · rename_i hc
                  simp only [T.pick, Option.some.injEq] at h2
                  rw [if_pos hc, h2]
                · cases h2
            · split at h2 <;> cases h2
          obtain ⟨e1, e2, e3, e4⟩ := head_ren (ρ := ρ) hok hleaf
          simp only at e1 e2 e4
          subst e1 e2
          obtain ⟨q1, q2⟩ := hq2
          obtain ⟨q3, q4, r', q5, q6⟩ := q2 e3
          obtain ⟨k, hk⟩ := ih (μ (ρ.sub s)) (hm' ▸ q4) (ρ.sub s) r' rfl q3 q5
          have hk := hk.sub e3
          rw [frOf_sub, obOf_sub, frOf_sub, obOf_sub] at hk
          have hk2 := TR.imp (hk.ren e4 (n := s'.n)) (Fm.imp.refl ρ _) (Sto.imp.refl ρ _) q6.fr q6.ob
          have eo : r'.o = r.o := q6.o
          have en : r'.n = r.n := q6.n
          rw [eo, en] at hk2
          exact ⟨k + 1, TR.more (k2 q1 H.n0 (by unfold LHead.n; omega)) hk2⟩
        | out r' =>
          obtain ⟨q1, q2, q3⟩ := hq2
          unfold headS at h2
          split at h2
          · split at h2
            · cases h2
            · simp only at h2
              split at h2 <;> cases h2
          · rename_i o' hne
            split at h2
            · rename_i rob hrob
              simp only [T.pick, Option.some.injEq, LEnd.out.injEq] at h2
              subst h2
              have hTC := (k2 q1 H.n0 (by unfold LHead.n; omega)).imp (Fm.imp.refl ρ _) (Sto.imp.refl ρ _) (frOf_cut _ osl) (Sto.imp.le (cutOb_le _ hrob))
              have hTC := hTC.imp (Fm.imp.refl ρ _) (Sto.imp.refl ρ _) q2.fr q2.ob
              have eo : o = r.o := q2.o
              have en : s'.n = r.n := q2.n
              simp only [en] at hTC
              rw [← eo]
              exact ⟨1, TR.out hTC q3⟩
            · cases h2
  exact fun ρ r => key (μ ρ) ρ r rfl
end Go.Proofs.YtmckhoaekbeijaaGreat.E
/- Loops, told. Plain Lean over the kit's model; no program. -/
namespace Go.Proofs.YtmckhoaekbeijaaGreat.E
open Go Go.RowKit
set_option linter.unusedVariables false

/-- the slots that a loop writes are among these. -/
def dsOk (P : Program) (g id : Nat) (ds : List Nat) : Bool := match theLoop P g id with
  | some (nt, a) => (dsts a).all ds.contains
  | none => false
def allN (n : Nat) : T LRes → Bool
  | .leaf r => Nat.ble n r.n
  | .br _ l r => allN n l && allN n r
  | .dead => true
theorem allN_ok {ρ : Env} {n : Nat} : ∀ {t : T LRes} {r : LRes}, allN n t = true → t.pick ρ = some r → n ≤ r.n
  | .leaf r, r', h, hp => by cases hp; exact Nat.le_of_ble_eq_true h
  | .br c l r, r', h, hp => by
    simp only [allN, Bool.and_eq_true] at h
    simp only [T.pick] at hp
    cases hc : c.den ρ with
    | true => rw [hc] at hp; exact allN_ok h.1 hp
    | false => rw [hc] at hp; exact allN_ok h.2 hp
  | .dead, r', h, hp => by cases hp
/-- what a loop does from its head on. -/
def HeadOk (P : Program) (g id : Nat) (H : LHead) (I : Env → Prop) (res : T LRes) : Prop :=
  ∀ nt a, theLoop P g id = some (nt, a) → ∀ ρ r, I ρ → res.pick ρ = some r → ∃ k, TR P ρ H.n0 nt a k (fmOf (frOf H.fr)) H.n (obOf H.ob).get r.o (fmOf (frOf r.fr)) r.n (obOf r.ob).get
theorem HeadOk.of {P : Program} (hm : P.follows .mixedOrders = true) {cf : Cf} (hcf : CfOk P cf) {fuel depth g id : Nat} {H : LHead} {kn : Kn} {osl oob : List Nat} {t : T LEnd} (hr : roundH P cf fuel depth g id H kn osl oob = t)
    (I : Env → Prop) (μ : Env → Nat) (res : T LRes) (hkn : ∀ ρ, I ρ → knOk ρ kn)
    (step : ∀ ρ r, I ρ → res.pick ρ = some r → ∃ q, t.pick ρ = some q ∧ match q with
      | .go s ok => okOk ρ ok ∧ (s.nix → I (ρ.sub s) ∧ μ (ρ.sub s) < μ ρ ∧ ∃ r', res.pick (ρ.sub s) = some r' ∧ LRes.imp ρ (r'.subst s) r)
      | .out r' => okOk ρ r'.ok ∧ LRes.imp ρ r' r ∧ r'.o ≠ .normal) : HeadOk P g id H I res :=
  fun _ _ ha => rounds_ok hm hcf ha hr I μ res hkn step
def LHead.π0 (H : LHead) (p0 : List Nat) (id : Nat) : Nat := if Nat.blt id H.n0 then id else p0.getD (id - H.n0) 0
/-- the head, its moving names being these. -/
def LHead.at (H : LHead) (p0 : List Nat) : List (Nat × V) := H.fr.map fun p => (p.1, p.2.ren (H.π0 p0))
def LHead.obs (H : LHead) (p0 : List Nat) : List (Nat × Ob) := H.ob.map fun p => (H.π0 p0 p.1, ⟨p.2.row.ren (H.π0 p0), p.2.rw, p.2.e⟩)
def LHead.ok0 (H : LHead) (p0 : List Nat) : Bool := H.fr.all (fun p => p.2.inn (lower H.n)) && H.ob.all (fun p => Nat.blt p.1 H.n && p.2.row.inn (lower H.n)) && apartN (H.ob.map fun p => H.π0 p0 p.1) && apartN (H.ob.map fun p => p.1)
theorem obOf_last {l : List (Nat × Ob)} (ha : apartN (l.map fun p => p.1) = true) {p : Nat × Ob} (hp : p ∈ l) : (obOf l).get p.1 = some p.2 := by
  induction l with
  | nil => cases hp
  | cons q l ih =>
    rw [obOf, Tr.get_put]
    have hap := apartN_ok (fun p : Nat × Ob => p.1) ha
    by_cases e : p.1 = q.1
    · rw [if_pos e]
      have := hap p hp q (List.mem_cons_self ..) e
      rw [this]
    · rw [if_neg e]
      simp only [List.map_cons, apartN, Bool.and_eq_true] at ha
      rcases List.mem_cons.1 hp with rfl | hp
      · exact (e rfl).elim
      · exact ih ha.2 hp
theorem frOf_map {f : V → V} (hu : f .und = .und) : ∀ (l : List (Nat × V)) (t : Nat), fmOf (frOf (l.map fun p => (p.1, f p.2))) t = f (fmOf (frOf l) t)
  | [], t => hu.symm
  | p :: l, t => by
    have ih := frOf_map hu l t
    unfold fmOf at ih ⊢
    rw [List.map_cons, frOf, frOf, Tr.get_put, Tr.get_put]
    by_cases e : t = p.1
    · rw [if_pos e, if_pos e]
    · rw [if_neg e, if_neg e]; exact ih
/-- a loop whose head is there at its beginning, names being what they are. -/
theorem LConOk.of {P : Program} {g id : Nat} {ds : List Nat} {H : LHead} {I : Env → Prop} {res : T LRes} (h : HeadOk P g id H I res) (p0 : List Nat) (hds : dsOk P g id ds = true) (hn : allN H.n0 res = true) (hok : H.ok0 p0 = true) (hI : ∀ ρ r, res.pick ρ = some r → okOk ρ r.ok → I ρ) : LConOk P ⟨g, id, ds, H.at p0, H.n0, H.obs p0, res⟩ := by
  unfold dsOk at hds
  split at hds
  · rename_i nt a ha
    refine ⟨nt, a, ha, fun t ht => ?_, fun ρ r hp => ⟨allN_ok hn hp, fun hr => ?_⟩⟩
    · exact List.all_eq_true.1 hds t (by simpa using ht)
    · obtain ⟨k, hk⟩ := h nt a ha ρ r (hI ρ r hp hr) hp
      refine ⟨k, hk.ren (π := H.π0 p0) ?_⟩
      simp only [LHead.ok0, Bool.and_eq_true, List.all_eq_true] at hok
      obtain ⟨⟨⟨o1, o2⟩, o3⟩, o4⟩ := hok
      refine ⟨fun id hid => ?_, Nat.le_add_right _ _, fun t => ⟨?_, ?_⟩, fun id o2' h2 => ?_, fun id id' o o' h1 h2 e => ?_⟩
      · have hid : id < H.n0 := hid
        unfold LHead.π0; rw [if_pos (by simp [Nat.blt]; omega)]
      · show V.imp ρ (fmOf (frOf (H.fr.map fun p => (p.1, p.2.ren (H.π0 p0)))) t) _
        rw [frOf_map (f := V.ren (H.π0 p0)) rfl]; exact V.imp.refl _ _
      · unfold fmOf
        cases hg : (frOf H.fr).get t with
        | none => rfl
        | some v => exact o1 _ (frOf_get _ _ _ hg)
      · have hm := obOf_get _ _ _ h2
        have hb := o2 _ hm
        refine ⟨Nat.le_of_ble_eq_true hb.1, hb.2, ⟨o2'.row.ren (H.π0 p0), o2'.rw, o2'.e⟩, ?_, rfl, rfl, Row.imp.refl _ _⟩
        have := obOf_last (l := H.obs p0) (by unfold LHead.obs; rw [List.map_map]; exact o3) (p := (H.π0 p0 id, ⟨o2'.row.ren (H.π0 p0), o2'.rw, o2'.e⟩)) (List.mem_map.2 ⟨(id, o2'), hm, rfl⟩)
        exact this
      · have h1 := obOf_get _ _ _ h1
        have h2 := obOf_get _ _ _ h2
        have := apartN_ok (fun p : Nat × Ob => H.π0 p0 p.1) o3 (id, o) h1 (id', o') h2 e
        exact congrArg (·.1) this
  · cases hds

/-! ### from nothing -/
def T.sub (s : Sub) : T LRes → T LRes
  | .leaf r => .leaf ⟨r.o, r.fr.map fun p => (p.1, p.2.sub s), r.n, r.ob.map fun p => (p.1, p.2.sub s), r.ok.map (·.sub s)⟩
  | .br c l r => .br (c.sub s) (T.sub s l) (T.sub s r)
  | .dead => .dead
theorem T.sub_pick {ρ : Env} {s : Sub} (hs : s.nix) : ∀ {t : T LRes} {r : LRes}, (T.sub s t).pick ρ = some r → ∃ r', t.pick (ρ.sub s) = some r' ∧ r = ⟨r'.o, r'.fr.map fun p => (p.1, p.2.sub s), r'.n, r'.ob.map fun p => (p.1, p.2.sub s), r'.ok.map (·.sub s)⟩
  | .leaf r', r, h => by simp only [T.sub, T.pick, Option.some.injEq] at h; exact ⟨r', rfl, h.symm⟩
  | .br c l r', r, h => by
    simp only [T.sub, T.pick, B.sub_den hs] at h ⊢
    cases hc : c.den (ρ.sub s) with
    | true => rw [hc] at h; exact T.sub_pick hs h
    | false => rw [hc] at h; exact T.sub_pick hs h
  | .dead, r, h => by cases h
def isNilStart (n z : Nat) : V → Bool
  | .sl id co off len z' top => Nat.beq id n && Nat.beq co 0 && off.same (.lit 0) && len.same (.lit 0) && Nat.beq z z' && top
  | _ => false
theorem isNilStart_ok {n z : Nat} {v : V} (h : isNilStart n z v = true) : v = .sl n 0 (.lit 0) (.lit 0) z true := by
  unfold isNilStart at h
  split at h
  · simp only [Bool.and_eq_true] at h
    obtain ⟨⟨⟨⟨⟨h1, h2⟩, h3⟩, h4⟩, h5⟩, h6⟩ := h
    rw [Nat.eq_of_beq_eq_true h1, Nat.eq_of_beq_eq_true h2, E.same_ok h3, E.same_ok h4, Nat.eq_of_beq_eq_true h5, h6]
  · cases h
def emptyRow : Row → Bool
  | .ints _ l => l.same .nil
  | .recs _ n _ => n.same (.lit 0)
  | .any l => match l with
    | [] => true
    | _ => false
theorem emptyRow_ok {r : Row} (h : emptyRow r = true) (β : Bt) : RH β r [] := by
  cases r with
  | ints k l => have := L.same_ok h; subst this; simp [RH, Fr, L.den]
  | recs z n t => have := E.same_ok h; subst this; simp [RH, Fr, E.den]
  | any l => cases l with
    | nil => exact trivial
    | cons => cases h
/-- the slots at the beginning, the row being none yet. -/
def nilFr (H : LHead) (s : Sub) (z : Nat) : List (Nat × V) := H.fr.map fun p => (p.1, if isNilStart H.n0 z (p.2.sub s) then .sc (.slice none 0 0) else p.2.sub s)
/-- one row that is none at the beginning: its object stands last. -/
def nilOk (H : LHead) (s : Sub) (o : Ob) (ob0 : List (Nat × Ob)) : Bool := emptyRow (o.row.sub s) && o.rw && (match H.pm with | [_] => true | _ => false) && H.ob.all (fun p => p.2.row.inn (lower H.n)) && ob0.all (fun p => Nat.blt p.1 H.n0)
theorem LConOk.nil {P : Program} {g id : Nat} {ds : List Nat} {fr0 : List (Nat × V)} {n0 : Nat} {pm : List Nat} {ob0 : List (Nat × Ob)} {o : Ob} {I : Env → Prop} {res : T LRes} (h : HeadOk P g id ⟨fr0, n0, pm, (n0, o) :: ob0⟩ I res) (s : Sub) (z : Nat) (hs : s.noix = true) (hds : dsOk P g id ds = true) (hn : allN n0 (T.sub s res) = true)
    (hok : nilOk ⟨fr0, n0, pm, (n0, o) :: ob0⟩ s o ob0 = true) (hI : ∀ ρ r, (T.sub s res).pick ρ = some r → okOk ρ r.ok → I (ρ.sub s)) : LConOk P ⟨g, id, ds, nilFr ⟨fr0, n0, pm, (n0, o) :: ob0⟩ s z, n0, ob0.map fun p => (p.1, p.2.sub s), T.sub s res⟩ := by
  have hsn := Sub.noix_ok hs
  unfold dsOk at hds
  split at hds
  · rename_i nt a ha
    refine ⟨nt, a, ha, fun t ht => ?_, fun ρ r hp => ⟨allN_ok hn hp, fun hr => ?_⟩⟩
    · exact List.all_eq_true.1 hds t (by simpa using ht)
    · obtain ⟨r', h1, rfl⟩ := T.sub_pick hsn hp
      obtain ⟨k, hk⟩ := h nt a ha (ρ.sub s) r' (hI ρ _ hp hr) h1
      simp only [nilOk, Bool.and_eq_true] at hok
      obtain ⟨⟨⟨⟨q1, q2⟩, q3⟩, q4⟩, q5⟩ := hok
      have hpm : ∃ x, pm = [x] := by
        cases pm with
        | nil => cases q3
        | cons x l => cases l with
          | nil => exact ⟨x, rfl⟩
          | cons => cases q3
      obtain ⟨x, rfl⟩ := hpm
      have hk := hk.sub hsn
      rw [frOf_sub, obOf_sub, frOf_sub, obOf_sub] at hk
      refine ⟨k, TR.nilStart (T := fun _ => true) (kd := 0) (z := z) (r := o.row.sub s) (ty := o.e) (Nat.le_refl _) (emptyRow_ok q1) (fun t => ?_) (fr2 := fmOf (frOf (fr0.map fun p => (p.1, p.2.sub s)))) ?_⟩
      · have e1 : ∀ (l : List (Nat × V)), fmOf (frOf (l.map fun p => (p.1, if isNilStart n0 z (p.2.sub s) then V.sc (.slice none 0 0) else p.2.sub s))) t = (if isNilStart n0 z (fmOf (frOf (l.map fun p => (p.1, p.2.sub s))) t) then V.sc (.slice none 0 0) else fmOf (frOf (l.map fun p => (p.1, p.2.sub s))) t) := by
          intro l
          induction l with
          | nil => rfl
          | cons p l ih =>
            unfold fmOf at ih ⊢
            rw [List.map_cons, List.map_cons, frOf, frOf, Tr.get_put, Tr.get_put]
            by_cases e : t = p.1
            · rw [if_pos e, if_pos e]
            · rw [if_neg e, if_neg e]; exact ih
        show _ = fmOf (frOf (fr0.map fun p => (p.1, if isNilStart n0 z (p.2.sub s) then V.sc (.slice none 0 0) else p.2.sub s))) t ∨ _
        rw [e1]
        split
        · rename_i hc
          right
          exact ⟨(e1 fr0).trans (by rw [if_pos hc]), isNilStart_ok hc⟩
        · left; rfl
      · have e2 : Sto.put (obOf (ob0.map fun p => (p.1, p.2.sub s))).get n0 ⟨o.row.sub s, true, o.e⟩ = (obOf (((n0, o) :: ob0).map fun p => (p.1, p.2.sub s))).get := by
          funext j
          rw [List.map_cons, obOf, Tr.get_put]
          unfold Sto.put
          split
          · simp only [Ob.sub]; rw [q2]
          · rfl
        rw [e2]
        exact hk
  · cases hds
end Go.Proofs.YtmckhoaekbeijaaGreat.E
/- Loops, told: short forms. Plain Lean over the kit's model; no program. -/
namespace Go.Proofs.YtmckhoaekbeijaaGreat.E
open Go Go.RowKit
set_option linter.unusedVariables false
def ImpFr (ρ : Env) : List (Nat × V) → List (Nat × V) → Prop
  | [], [] => True
  | p :: l, q :: m => p.1 = q.1 ∧ V.imp ρ p.2 q.2 ∧ ImpFr ρ l m
  | _, _ => False
def ImpOb (ρ : Env) : List (Nat × Ob) → List (Nat × Ob) → Prop
  | [], [] => True
  | p :: l, q :: m => (p.1 = q.1 ∧ p.2.rw = q.2.rw ∧ p.2.e = q.2.e) ∧ Row.imp ρ p.2.row q.2.row ∧ ImpOb ρ l m
  | _, _ => False
theorem ImpFr.ok {ρ : Env} : ∀ {l m : List (Nat × V)}, ImpFr ρ l m → Fm.imp ρ (fmOf (frOf l)) (fmOf (frOf m))
  | [], [], _ => Fm.imp.refl _ _
  | p :: l, q :: m, h => by
    obtain ⟨h1, h2, h3⟩ := h
    have ih := ImpFr.ok h3
    intro t
    unfold fmOf
    rw [frOf, frOf, Tr.get_put, Tr.get_put, h1]
    by_cases e : t = q.1
    · rw [if_pos e, if_pos e]; exact h2
    · rw [if_neg e, if_neg e]; exact ih t
  | [], _ :: _, h => h.elim
  | _ :: _, [], h => h.elim
theorem ImpOb.ok {ρ : Env} : ∀ {l m : List (Nat × Ob)}, ImpOb ρ l m → Sto.imp ρ (obOf l).get (obOf m).get
  | [], [], _ => Sto.imp.refl _ _
  | p :: l, q :: m, h => by
    obtain ⟨⟨h1, h2, h3⟩, h4, h5⟩ := h
    have ih := ImpOb.ok h5
    intro id o' ho'
    rw [obOf, Tr.get_put] at ho'
    rw [obOf, Tr.get_put, h1]
    by_cases e : id = q.1
    · rw [if_pos e] at ho' ⊢; cases ho'; exact ⟨p.2, rfl, h2, h3, h4⟩
    · rw [if_neg e] at ho' ⊢; exact ih id o' ho'
  | [], _ :: _, h => h.elim
  | _ :: _, [], h => h.elim
theorem LRes.mk_imp {ρ : Env} {o : Out} {n : Nat} {fr fr' : List (Nat × V)} {ob ob' : List (Nat × Ob)} {ok ok' : List B} (h : ImpFr ρ fr fr') (k : ImpOb ρ ob ob') : LRes.imp ρ ⟨o, fr, n, ob, ok⟩ ⟨o, fr', n, ob', ok'⟩ := ⟨rfl, rfl, h.ok, k.ok⟩
theorem V.imp.sl {ρ : Env} {id co z : Nat} {off len off' len' : E} {top : Bool} (h1 : off.den ρ = off'.den ρ) (h2 : len.den ρ = len'.den ρ) : V.imp ρ (.sl id co off len z top) (.sl id co off' len' z top) := fun β x e hr => by
  have hr : R0 β (.sl id co off len z top) x := hr
  have : R0 β (.sl id co off' len' z top) x := by
    simp only [R0] at hr ⊢
    rw [e] at hr ⊢
    rw [← h1, ← h2]; exact hr
  exact R0.toR this
theorem V.imp.fsInts {ρ : Env} {z : Nat} {k : IntKind} {l l' : L} (h : l.den ρ = l'.den ρ) : V.imp ρ (.fs z (.ints k l)) (.fs z (.ints k l')) := fun β x e hr => by
  have hr : F1 (.fs z (.ints k l)) β.g x := hr
  have : F1 (.fs z (.ints k l')) β.g x := by
    simp only [F1, Fr] at hr ⊢
    rw [e] at hr ⊢
    rw [← h]; exact hr
  exact R0.toR (F1.up this)
theorem V.imp.str {ρ : Env} {l l' : L} (h : l.den ρ = l'.den ρ) : V.imp ρ (.str l) (.str l') := fun β x e hr => by
  rw [R_str hr, e, h]; exact R.mkStr β (by rw [e])
theorem Row.imp.ints {ρ : Env} {k : IntKind} {l l' : L} (h : l.den ρ = l'.den ρ) : Row.imp ρ (.ints k l) (.ints k l') := fun β xs e hr => by
  simp only [RH, Fr] at hr ⊢
  rw [e] at hr ⊢
  rw [← h]; exact hr
/-- aggregates of numbers. -/
theorem V.imp.aggs {ρ : Env} {cs ds : List V} (h : ∀ (β : Bt) (xs : List Value), β.g.env = ρ → F2 (R1 β) cs xs → F2 (R1 β) ds xs) : V.imp ρ (.agg cs) (.agg ds) := fun β x e ⟨xs, e1, hx⟩ => ⟨xs, e1, h β _ e hx⟩
/-- numbers of one kind. -/
theorem ints_imp {ρ : Env} {k : IntKind} : ∀ {es ds : List E}, es.map (E.den ρ) = ds.map (E.den ρ) → ∀ (β : Bt) (xs : List Value), β.g.env = ρ → F2 (R1 β) (es.map (V.int k)) xs → F2 (R1 β) (ds.map (V.int k)) xs
  | [], [], _, _, _, _, h => h
  | [], _ :: _, h, _, _, _, _ => by cases h
  | _ :: _, [], h, _, _, _, _ => by cases h
  | a :: es, d :: ds, h, β, [], _, hx => hx.elim
  | a :: es, d :: ds, h, β, x :: xs, e, hx => by
    simp only [List.map_cons, List.cons.injEq] at h
    refine ⟨?_, ints_imp h.2 β xs e hx.2⟩
    have := hx.1
    simp only [R1, R0, F1] at this ⊢
    rw [e] at this ⊢
    rw [← h.1]; exact this
theorem V.imp.ints {ρ : Env} {k : IntKind} {es ds : List E} (h : es.map (E.den ρ) = ds.map (E.den ρ)) : V.imp ρ (.agg (es.map (V.int k))) (.agg (ds.map (V.int k))) := V.imp.aggs (ints_imp h)
/-- the numbers of a row of the table. -/
def appE (n f : Nat) (a : L) (as : LL) : List E := (List.range n).map fun i => .get (.app f a as) (.lit (.ofNat i))
theorem appE_den (ρ : Env) (n f : Nat) (a : L) (as : LL) (hf : (shapeJ f).1 = some n) : (appE n f a as).map (E.den ρ) = J f (a.den ρ) (as.den ρ) := by
  have hl := J_len hf (a.den ρ) (as.den ρ)
  apply List.ext_getElem?
  intro i
  unfold appE
  rw [List.map_map, List.getElem?_map]
  by_cases hi : i < n
  · rw [List.getElem?_range hi]
    show some ((J f (a.den ρ) (as.den ρ)).getD ((i : Int)).toNat 0) = _
    rw [Int.toNat_natCast, List.getD, List.getElem?_eq_getElem (by omega)]
    rfl
  · rw [List.getElem?_eq_none (by simpa using hi), List.getElem?_eq_none (by omega)]; rfl
theorem cfOk_mk {P : Program} {cs : List Con} {ls : List LCon} {mg : FuncId → Nat} (h : ∀ c ∈ cs, ConOk P c) (hl : ∀ c ∈ ls, LConOk P c) : CfOk P ⟨tabC cs, lpC ls, mg⟩ := ⟨fun ρ => tabC_ok h, fun ρ => lpC_ok hl⟩
def noMg : FuncId → Nat := fun _ => 0
def allMg : FuncId → Nat := fun _ => 1
def hidMg : FuncId → Nat := fun _ => 2
theorem all_nil {α : Type} {p : α → Prop} : ∀ x ∈ ([] : List α), p x := fun x hx => by cases hx
theorem all_cons {α : Type} {p : α → Prop} {a : α} {l : List α} (h : p a) (t : ∀ x ∈ l, p x) : ∀ x ∈ a :: l, p x := fun x hx => by
  rcases List.mem_cons.1 hx with rfl | hx
  · exact h
  · exact t x hx
theorem all_app {α : Type} {p : α → Prop} {a l : List α} (h : ∀ x ∈ a, p x) (t : ∀ x ∈ l, p x) : ∀ x ∈ a ++ l, p x := fun x hx => by
  rcases List.mem_append.1 hx with hx | hx
  · exact h x hx
  · exact t x hx
end Go.Proofs.YtmckhoaekbeijaaGreat.E
/- Loops that append, told. Plain Lean over the kit's model; no program. -/
namespace Go.Proofs.YtmckhoaekbeijaaGreat.E
open Go Go.RowKit
set_option linter.unusedVariables false
/-- the slot and the object of a row that grows. -/
def rowFr (slot n0 z : Nat) (l : L) : List (Nat × V) := [(slot, .sl n0 0 (.lit 0) (.len l) z true)]
def rowOb (n0 : Nat) (k : IntKind) (e : TypeId) (l : L) : List (Nat × Ob) := [(n0, ⟨.ints k l, true, e⟩)]
theorem rowImp {ρ : Env} {o : Out} {slot n0 z n : Nat} {k : IntKind} {e : TypeId} {l l' : L} {ok ok' : List B} (h : l.den ρ = l'.den ρ) : LRes.imp ρ ⟨o, rowFr slot n0 z l, n, rowOb n0 k e l, ok⟩ ⟨o, rowFr slot n0 z l', n, rowOb n0 k e l', ok'⟩ :=
  LRes.mk_imp ⟨rfl, V.imp.sl rfl (by simp only [E.den, h]), trivial⟩ ⟨⟨rfl, rfl, rfl⟩, Row.imp.ints h, trivial⟩
theorem rowSub {ρ : Env} {o : Out} {slot n0 n : Nat} {k : IntKind} {e : TypeId} {l l' : L} {ok ok' : List B} {s : Sub} (hs : s.nix) (h : l.den (ρ.sub s) = l'.den ρ) : LRes.imp ρ (LRes.subst ⟨o, rowFr slot n0 1 l, n, rowOb n0 k e l, ok⟩ s) ⟨o, rowFr slot n0 1 l', n, rowOb n0 k e l', ok'⟩ := by
  have hl : (l.sub' s).den ρ = l'.den ρ := by rw [L.sub_den hs]; exact h
  refine LRes.mk_imp ⟨rfl, ?_, trivial⟩ ⟨⟨rfl, rfl, rfl⟩, ?_, trivial⟩
  · simp only [V.sub, E.sub]
    exact V.imp.sl rfl (by rw [mkLen_den, hl]; rfl)
  · simp only [Ob.sub, Row.sub]
    exact Row.imp.ints hl
theorem HeadOk.flat {P : Program} (hm : P.follows .mixedOrders = true) {cf : Cf} (hcf : CfOk P cf) {fuel depth g id : Nat} {H : LHead} {osl oob : List Nat} {slot n0 n1 x i b : Nat} {k : IntKind} {e : TypeId} {N : E} {s : Sub} {oks : List B}
    (hr : roundH P cf fuel depth g id H [] osl oob = .br (.lt (.var i) N) (.leaf (.go s oks)) (.leaf (.out ⟨.exit x, rowFr slot n0 1 (.var b), n1, rowOb n0 k e (.var b), []⟩)))
    (I : Env → Prop) (G : L) (okr : List B) (hN : ∀ ρ, I ρ → 0 ≤ ρ.e i ∧ ρ.e i ≤ N.den ρ)
    (go : ∀ ρ, I ρ → ρ.e i < N.den ρ → okOk ρ oks ∧ (s.nix → I (ρ.sub s) ∧ (ρ.sub s).e i = ρ.e i + 1 ∧ N.den (ρ.sub s) = N.den ρ ∧ (ρ.sub s).l b ++ G.den (ρ.sub s) = ρ.l b ++ G.den ρ))
    (stop : ∀ ρ, I ρ → ρ.e i = N.den ρ → G.den ρ = []) : HeadOk P g id H I (.leaf ⟨.exit x, rowFr slot n0 1 (.cat (.var b) G), n1, rowOb n0 k e (.cat (.var b) G), okr⟩) := by
  refine HeadOk.of hm hcf hr I (fun ρ => (N.den ρ - ρ.e i).toNat) _ (fun ρ _ x hx => by cases hx) fun ρ r hI hp => ?_
  cases hp
  obtain ⟨h1, h2⟩ := hN ρ hI
  simp only [T.pick, B.den]
  cases hc : ltb ((E.var i).den ρ) (N.den ρ) with
  | true =>
    have hlt : ρ.e i < N.den ρ := ltb_ok hc
    obtain ⟨g1, g2⟩ := go ρ hI hlt
    refine ⟨_, rfl, g1, fun hs => ?_⟩
    obtain ⟨k1, k2, k3, k4⟩ := g2 hs
    exact ⟨k1, by rw [k2, k3]; omega, _, rfl, rowSub hs k4⟩
  | false =>
    have hge : N.den ρ ≤ ρ.e i := ltb_no hc
    refine ⟨_, rfl, fun b hb => (by cases hb), rowImp ?_, by simp⟩
    show ρ.l b = ρ.l b ++ G.den ρ
    rw [stop ρ hI (by omega)]; simp
/-- the rest of a row. -/
def restL (l : L) (i : E) : L := .cut l i (.len l)
theorem restL_den (ρ : Env) (l : L) (i : E) : (restL l i).den ρ = (l.den ρ).drop (i.den ρ).toNat := by
  show ((l.den ρ).take (((l.den ρ).length : Nat) : Int).toNat).drop (i.den ρ).toNat = _
  rw [Int.toNat_natCast, List.take_length]
def restLL (l : LL) (i : E) : LL := .cut l i (.cnt l)
theorem restLL_den (ρ : Env) (l : LL) (i : E) : (restLL l i).den ρ = (l.den ρ).drop (i.den ρ).toNat := by
  show ((l.den ρ).take (((l.den ρ).length : Nat) : Int).toNat).drop (i.den ρ).toNat = _
  rw [Int.toNat_natCast, List.take_length]
theorem drop_at {α : Type} {l : List α} {i : Int} {d : α} (h0 : 0 ≤ i) (h : i < (l.length : Nat)) : l.drop i.toNat = l.getD i.toNat d :: l.drop (i + 1).toNat := by
  have : i.toNat < l.length := by omega
  rw [List.drop_eq_getElem_cons this, List.getD, List.getElem?_eq_getElem this]
  simp only [Option.getD_some]
  congr 2
  omega
theorem add1 {x n : Int} (h0 : 0 ≤ x) (h : x < n) (hn : n ≤ 9223372036854775807) : binI .add .i64 x 1 = x + 1 :=
  wrap_id .i64 _ (by show (-9223372036854775808 : Int) ≤ _; omega) (by show _ ≤ (9223372036854775807 : Int); omega)
theorem lenN {ρ : Env} {l : L} : (E.len l).den ρ = ((l.den ρ).length : Nat) := rfl
theorem ltT {a b : Int} (h : a < b) : ltb a b = true := by rw [ltb_eq]; simpa using h
theorem ltF {a b : Int} (h : b ≤ a) : ltb a b = false := by rw [ltb_eq]; simpa using h
end Go.Proofs.YtmckhoaekbeijaaGreat.E
/- Loops that append, told by what all of it gives. Plain Lean over the kit's model; no program. -/
namespace Go.Proofs.YtmckhoaekbeijaaGreat.E
open Go Go.RowKit
set_option linter.unusedVariables false
def appI (i b : Nat) (N : E) (G : L) (ρ : Env) : Prop := 0 ≤ ρ.e i ∧ ρ.e i ≤ N.den ρ ∧ N.den ρ < 4611686018427387904 ∧ (ρ.l b).length + (G.den ρ).length < 1073741824
def appOk (i b : Nat) (N : E) (G : L) : List B := [.not (.lt (.var i) (.lit 0)), .not (.lt N (.var i)), .lt N (.lit 4611686018427387904), .lt (.len (.cat (.var b) G)) (.lit 1073741824)]
theorem appI_of {i b : Nat} {N : E} {G : L} {ρ : Env} (h : okOk ρ (appOk i b N G)) : appI i b N G ρ := by
  have h1 := h _ (List.mem_cons_self ..)
  have h2 := h _ (List.mem_cons_of_mem _ (List.mem_cons_self ..))
  have h3 := h _ (List.mem_cons_of_mem _ (List.mem_cons_of_mem _ (List.mem_cons_self ..)))
  have h4 := h _ (List.mem_cons_of_mem _ (List.mem_cons_of_mem _ (List.mem_cons_of_mem _ (List.mem_cons_self ..))))
  simp only [B.den, E.den, L.den, ltb_eq, List.length_append, Bool.not_eq_true', decide_eq_true_eq, decide_eq_false_iff_not] at h1 h2 h3 h4
  exact ⟨by omega, by omega, by omega, by omega⟩
def appRes (slot n0 n1 x b : Nat) (k : IntKind) (e : TypeId) (G : L) (okr : List B) : T LRes := .leaf ⟨.exit x, rowFr slot n0 1 (.cat (.var b) G), n1, rowOb n0 k e (.cat (.var b) G), okr⟩
theorem HeadOk.app {P : Program} (hm : P.follows .mixedOrders = true) {cf : Cf} (hcf : CfOk P cf) {fuel depth g id : Nat} {H : LHead} {osl oob : List Nat} {slot n0 n1 x i b : Nat} {k : IntKind} {e : TypeId} {N : E} {s : Sub} {oks : List B}
    (hr : roundH P cf fuel depth g id H [] osl oob = .br (.lt (.var i) N) (.leaf (.go s oks)) (.leaf (.out ⟨.exit x, rowFr slot n0 1 (.var b), n1, rowOb n0 k e (.var b), []⟩)))
    (G : L) (hi : ∀ ρ : Env, (ρ.sub s).e i = binI .add .i64 (ρ.e i) 1)
    (go : ∀ ρ : Env, 0 ≤ ρ.e i → ρ.e i < N.den ρ → (ρ.sub s).e i = ρ.e i + 1 → N.den (ρ.sub s) = N.den ρ ∧ ∃ X, (ρ.sub s).l b = ρ.l b ++ X ∧ G.den ρ = X ++ G.den (ρ.sub s))
    (hok : ∀ ρ : Env, appI i b N G ρ → ρ.e i < N.den ρ → (ρ.sub s).e i = ρ.e i + 1 → okOk ρ oks)
    (stop : ∀ ρ : Env, ρ.e i = N.den ρ → G.den ρ = []) : HeadOk P g id H (appI i b N G) (appRes slot n0 n1 x b k e G (appOk i b N G)) := by
  refine HeadOk.flat hm hcf hr (appI i b N G) G (appOk i b N G) (fun ρ hI => ⟨hI.1, hI.2.1⟩) (fun ρ hI hlt => ?_) (fun ρ hI he => stop ρ he)
  have e1 : (ρ.sub s).e i = ρ.e i + 1 := by rw [hi]; exact add1 hI.1 hlt (by have := hI.2.2.1; omega)
  refine ⟨hok ρ hI hlt e1, fun hs => ?_⟩
  obtain ⟨k2, X, k3, k4⟩ := go ρ hI.1 hlt e1
  have k5 : (ρ.sub s).l b ++ G.den (ρ.sub s) = ρ.l b ++ G.den ρ := by rw [k3, k4, List.append_assoc]
  refine ⟨⟨by rw [e1]; have := hI.1; omega, by rw [e1, k2]; omega, by rw [k2]; exact hI.2.2.1, ?_⟩, e1, k2, k5⟩
  have := congrArg List.length k5
  simp only [List.length_append] at this
  have h4 := hI.2.2.2
  omega
theorem appI_nil {i b slot n0 n1 x : Nat} {k : IntKind} {e : TypeId} {N : E} {G : L} {s : Sub} (hs : s.noix = true) (ρ : Env) (r : LRes) (hp : (T.sub s (appRes slot n0 n1 x b k e G (appOk i b N G))).pick ρ = some r) (hok : okOk ρ r.ok) : appI i b N G (ρ.sub s) := by
  cases hp
  refine appI_of fun b' hb => ?_
  rw [← B.sub_den (Sub.noix_ok hs)]
  exact hok _ (List.mem_map.2 ⟨b', hb, rfl⟩)
theorem appI_at {i b slot n0 n1 x : Nat} {k : IntKind} {e : TypeId} {N : E} {G : L} (ρ : Env) (r : LRes) (hp : (appRes slot n0 n1 x b k e G (appOk i b N G)).pick ρ = some r) (hok : okOk ρ r.ok) : appI i b N G ρ := by
  cases hp; exact appI_of hok
/-- the slots that a loop writes. -/
def theDs (P : Program) (g id : Nat) : List Nat := match theLoop P g id with
  | some (_, a) => addNew (dsts a) []
  | none => []
def oksOf : T LEnd → List B
  | .br _ (.leaf (.go _ oks)) _ => oks
  | _ => []
/-- all of these are among those. -/
def amongB (l oks : List B) : Bool := oks.all fun b => l.any fun c => b.same c
theorem amongB_ok {l oks : List B} (h : amongB l oks = true) : ∀ b ∈ oks, b ∈ l := by
  intro b hb
  obtain ⟨c, hc, hs⟩ := List.any_eq_true.1 (List.all_eq_true.1 h b hb)
  rw [B.same_ok hs]; exact hc
/-- an index that may be. -/
theorem ok_ix {ρ : Env} {i : Nat} {N : E} (h0 : 0 ≤ ρ.e i) (h : ρ.e i < N.den ρ) : (B.and (.not (.lt (.var i) (.lit 0))) (.lt (.var i) N)).den ρ = true := by
  show (!ltb (ρ.e i) 0 && ltb (ρ.e i) (N.den ρ)) = true
  rw [ltF h0, ltT h]; rfl
theorem ok_len {ρ : Env} {l : L} {m : Nat} (h : (l.den ρ).length < m) : (B.lt (.len l) (.lit (.ofNat m))).den ρ = true := ltT (by show (((l.den ρ).length : Nat) : Int) < Int.ofNat m; exact Int.ofNat_lt.2 h)
end Go.Proofs.YtmckhoaekbeijaaGreat.E
/- Contracts of functions that work on objects of their caller's, or give new ones. Plain Lean over the kit's model; no program. -/
namespace Go.Proofs.YtmckhoaekbeijaaGreat.E
open Go Go.RowKit
set_option linter.unusedVariables false

/-! ### names given anew, the other way -/
section
variable {β : Bt} {m : Nat} {π : Nat → Nat} {f : Nat → Option (Option Bl)} (hag : ∀ id q, lower m id = true → β.nm id = some q → f (π id) = some q)
include hag
theorem R0.wid {v : V} {x : Value} (h : R0 β v x) (hv : v.in0 (lower m) = true) : R0 ⟨β.g, f⟩ (v.ren0 π) x := by
  cases v with
  | ptr id i z c => obtain ⟨q, hq, e⟩ := h; exact ⟨q, hag id _ hv hq, e⟩
  | sl id co off len z top => obtain ⟨q, hq, e⟩ := h; exact ⟨q, hag id _ hv hq, e⟩
  | _ => exact h
theorem F2.wid0 : ∀ {vs : List V} {xs : List Value}, F2 (R0 β) vs xs → vs.all (V.in0 (lower m)) = true → F2 (R0 ⟨β.g, f⟩) (vs.map (V.ren0 π)) xs
  | [], [], _, _ => trivial
  | _ :: _, _ :: _, h, hv => by
    simp only [List.all_cons, Bool.and_eq_true] at hv
    exact ⟨R0.wid hag h.1 hv.1, F2.wid0 h.2 hv.2⟩
  | [], _ :: _, h, _ => h.elim
  | _ :: _, [], h, _ => h.elim
theorem R1.wid {v : V} {x : Value} (h : R1 β v x) (hv : v.in1 (lower m) = true) : R1 ⟨β.g, f⟩ (v.ren1 π) x := by
  cases v with
  | fn g a b =>
    obtain ⟨xs, ys, e, h1, h2⟩ := h
    simp only [V.in1, Bool.and_eq_true] at hv
    exact ⟨xs, ys, e, F2.wid0 hag h1 hv.1, F2.wid0 hag h2 hv.2⟩
  | ptr id i z c => exact R0.wid hag (v := .ptr id i z c) h hv
  | sl id co off len z top => exact R0.wid hag (v := .sl id co off len z top) h hv
  | _ => exact h
theorem F2.wid1 : ∀ {vs : List V} {xs : List Value}, F2 (R1 β) vs xs → vs.all (V.in1 (lower m)) = true → F2 (R1 ⟨β.g, f⟩) (vs.map (V.ren1 π)) xs
  | [], [], _, _ => trivial
  | _ :: _, _ :: _, h, hv => by
    simp only [List.all_cons, Bool.and_eq_true] at hv
    exact ⟨R1.wid hag h.1 hv.1, F2.wid1 h.2 hv.2⟩
  | [], _ :: _, h, _ => h.elim
  | _ :: _, [], h, _ => h.elim
theorem R2.wid {v : V} {x : Value} (h : R2 β v x) (hv : v.in2 (lower m) = true) : R2 ⟨β.g, f⟩ (v.ren2 π) x := by
  cases v with
  | agg cs => obtain ⟨xs, e, h1⟩ := h; exact ⟨xs, e, F2.wid1 hag h1 hv⟩
  | fn g a b => exact R1.wid hag (v := .fn g a b) h hv
  | ptr id i z c => exact R0.wid hag (v := .ptr id i z c) h hv
  | sl id co off len z top => exact R0.wid hag (v := .sl id co off len z top) h hv
  | _ => exact h
theorem F2.wid2 : ∀ {vs : List V} {xs : List Value}, F2 (R2 β) vs xs → vs.all (V.in2 (lower m)) = true → F2 (R2 ⟨β.g, f⟩) (vs.map (V.ren2 π)) xs
  | [], [], _, _ => trivial
  | _ :: _, _ :: _, h, hv => by
    simp only [List.all_cons, Bool.and_eq_true] at hv
    exact ⟨R2.wid hag h.1 hv.1, F2.wid2 h.2 hv.2⟩
  | [], _ :: _, h, _ => h.elim
  | _ :: _, [], h, _ => h.elim
theorem R.wid {v : V} {x : Value} (h : R β v x) (hv : v.inn (lower m) = true) : R ⟨β.g, f⟩ (v.ren π) x := by
  cases v with
  | tup vs => obtain ⟨xs, e, h1⟩ := h; exact ⟨xs, e, F2.wid2 hag h1 hv⟩
  | und => trivial
  | agg cs => exact R2.wid hag (v := .agg cs) h hv
  | fn g a b => exact R1.wid hag (v := .fn g a b) h hv
  | ptr id i z c => exact R0.wid hag (v := .ptr id i z c) h hv
  | sl id co off len z top => exact R0.wid hag (v := .sl id co off len z top) h hv
  | _ => exact h
theorem RH.wid {r : Row} {xs : List Value} (h : RH β r xs) (hv : r.inn (lower m) = true) : RH ⟨β.g, f⟩ (r.ren π) xs := by
  cases r with
  | any l => exact F2.wid1 hag h hv
  | _ => exact h
end
theorem F2.renR {β : Bt} {n : Nat} {π : Nat → Nat} : ∀ {vs : List V} {xs : List Value}, F2 (R β) (vs.map (V.ren π)) xs → vs.all (V.inn (lower n)) = true → F2 (R (β.ren n π)) vs xs
  | [], [], _, _ => trivial
  | _ :: _, _ :: _, h, hv => by
    simp only [List.all_cons, Bool.and_eq_true] at hv
    exact ⟨R.ren h.1 hv.1, F2.renR h.2 hv.2⟩
  | [], _ :: _, h, _ => h.elim
  | _ :: _, [], h, _ => h.elim
def renOb (π : Nat → Nat) (l : List (Nat × Ob)) : List (Nat × Ob) := l.map fun p => (π p.1, ⟨p.2.row.ren π, p.2.rw, p.2.e⟩)
theorem renOb_get {π : Nat → Nat} {j : Nat} {o : Ob} : ∀ {l : List (Nat × Ob)}, (obOf (renOb π l)).get j = some o → ∃ id o2, (obOf l).get id = some o2 ∧ j = π id ∧ o = ⟨o2.row.ren π, o2.rw, o2.e⟩
  | [], h => by cases h
  | p :: l, h => by
    unfold renOb at h
    rw [List.map_cons, obOf, Tr.get_put] at h
    by_cases e : j = π p.1
    · rw [if_pos e] at h
      cases h
      exact ⟨p.1, p.2, by rw [obOf, Tr.get_put, if_pos rfl], e, rfl⟩
    · rw [if_neg e] at h
      obtain ⟨id, o2, h1, h2, h3⟩ := renOb_get (l := l) h
      refine ⟨id, o2, ?_, h2, h3⟩
      rw [obOf, Tr.get_put, if_neg (fun hc => e (by rw [h2, hc]))]
      exact h1
theorem renOb_mk {π : Nat → Nat} {m id : Nat} {o : Ob} (hinj : ∀ a b, a < m → b < m → π a = π b → a = b) : ∀ {l : List (Nat × Ob)}, (∀ p ∈ l, p.1 < m) → (obOf l).get id = some o → (obOf (renOb π l)).get (π id) = some ⟨o.row.ren π, o.rw, o.e⟩
  | [], _, h => by cases h
  | p :: l, hl, h => by
    have hid : id < m := hl _ (obOf_get _ _ _ h)
    rw [obOf, Tr.get_put] at h
    unfold renOb
    rw [List.map_cons, obOf, Tr.get_put]
    by_cases e : id = p.1
    · rw [if_pos e] at h
      cases h
      rw [if_pos (by rw [e])]
    · rw [if_neg e] at h
      rw [if_neg (fun hc => e (hinj _ _ hid (hl _ (List.mem_cons_self ..)) hc))]
      exact renOb_mk hinj (fun p hp => hl p (List.mem_cons_of_mem _ hp)) h
/-- what the caller calls the names. -/
def nameMap (al : List Nat) (k n : Nat) (id : Nat) : Nat := if Nat.blt id k then al.getD id 0 else n + (id - k)
theorem nameMap_lt {al : List Nat} {k n id : Nat} (h : id < k) : nameMap al k n id = al.getD id 0 := by unfold nameMap; rw [if_pos (by simp [Nat.blt]; omega)]
theorem nameMap_ge {al : List Nat} {k n id : Nat} (h : k ≤ id) : nameMap al k n id = n + (id - k) := by unfold nameMap; rw [if_neg (by simp [Nat.blt]; omega)]
theorem apartN_get : ∀ {l : List Nat}, apartN l = true → ∀ i j, i < l.length → j < l.length → l.getD i 0 = l.getD j 0 → i = j
  | [], _, i, j, hi, _, _ => by simp at hi
  | a :: l, h, i, j, hi, hj, e => by
    simp only [apartN, Bool.and_eq_true, Bool.not_eq_true', List.contains_eq_mem, decide_eq_false_iff_not] at h
    have hm : ∀ k, k < l.length → l.getD k 0 ∈ l := fun k hk => by
      rw [List.getD, List.getElem?_eq_getElem hk]; exact List.getElem_mem hk
    cases i with
    | zero =>
      cases j with
      | zero => rfl
      | succ j =>
        simp only [List.getD_cons_zero, List.getD_cons_succ] at e
        exact (h.1 (e ▸ hm j (by simpa using hj))).elim
    | succ i =>
      cases j with
      | zero =>
        simp only [List.getD_cons_zero, List.getD_cons_succ] at e
        exact (h.1 (e ▸ hm i (by simpa using hi))).elim
      | succ j =>
        simp only [List.getD_cons_succ] at e
        have := apartN_get h.2 i j (by simpa using hi) (by simpa using hj) e
        omega
theorem Spec.sub2 {P : Program} {ρ : Env} {s : Sub} (hs : s.nix) {g : FuncId} {args : List V} {r : V} {n n' : Nat} {σ σ' : Sto} (h : Spec P (ρ.sub s) g args n σ r n' σ') : Spec P ρ g (V.subs args s) n (σ.sub s) (r.sub s) n' (σ'.sub s) := by
  refine ⟨h.there, fun β xs w hS hA => ?_⟩
  rw [V.subs_map] at hA
  refine (h.calls (β.sub s) xs w ((Sim.sub hs hS.env).1 hS) ((F2.iff fun a x => R.sub hs β a x).1 hA)).mono ?_
  rintro e w' ⟨x, β1, he, hR, hS1, st⟩
  have hb := Bt.back_sub (ρ := ρ) (s := s) hS1.env
  exact ⟨x, β1.back ρ, he, (R.sub hs _ r x).2 (by rw [hb]; exact hR), (Sim.sub hs rfl).2 (by rw [hb]; exact hS1), Step.sub hS.env hb st⟩
/-- a call's contract in its caller's names. -/
theorem Spec.named {P : Program} {ρ : Env} {g : FuncId} {args : List V} {k n n1 : Nat} {ob ob' : List (Nat × Ob)} {r : V} (h : Spec P ρ g args k (obOf ob).get r n1 (obOf ob').get) {al : List Nat}
    (hal : al.length = k) (hlt : ∀ a ∈ al, a < n) (hap : apartN al = true) (hk : k ≤ n1) (ha : args.all (V.inn (lower k)) = true) (hr : r.inn (lower n1) = true)
    (ho : ∀ p ∈ ob, p.1 < k ∧ p.2.row.inn (lower k) = true) (hall : ∀ id, id < k → ∃ o, (obOf ob).get id = some o) (ho' : ∀ p ∈ ob', p.1 < n1 ∧ p.2.row.inn (lower n1) = true) :
    Spec P ρ g (args.map (V.ren (nameMap al k n))) n (obOf (renOb (nameMap al k n) ob)).get (r.ren (nameMap al k n)) (n + (n1 - k)) (obOf (renOb (nameMap al k n) ob')).get := by
  refine ⟨h.there, fun β xs w hS hA => ?_⟩
  generalize hπ : nameMap al k n = π at hS hA ⊢
  have p1 : ∀ id, id < k → π id = al.getD id 0 ∧ π id < n := fun id hid => by
    have e : π id = al.getD id 0 := by rw [← hπ]; exact nameMap_lt hid
    refine ⟨e, ?_⟩
    rw [e, List.getD, List.getElem?_eq_getElem (by omega)]
    exact hlt _ (List.getElem_mem _)
  have p2 : ∀ id, k ≤ id → π id = n + (id - k) := fun id hid => by rw [← hπ]; exact nameMap_ge hid
  have hinj : ∀ a b, π a = π b → a = b := fun a b e => by
    by_cases h1 : a < k <;> by_cases h2 : b < k
    · rw [(p1 a h1).1, (p1 b h2).1] at e
      exact apartN_get hap a b (by omega) (by omega) e
    · have := (p1 a h1).2; rw [e, p2 b (by omega)] at this; omega
    · have := (p1 b h2).2; rw [← e, p2 a (by omega)] at this; omega
    · rw [p2 a (by omega), p2 b (by omega)] at e; omega
  have hren : Ren ρ 0 π (fun _ => .und) (obOf (renOb π ob)).get (fun _ => .und) k (obOf ob).get := by
    refine ⟨fun id hid => absurd hid (by omega), Nat.zero_le _, fun t => ⟨V.imp.und _ _, rfl⟩, fun id o2 e2 => ?_, fun id id' o o' _ _ e => hinj _ _ e⟩
    have hm := ho _ (obOf_get _ _ _ e2)
    exact ⟨hm.1, hm.2, _, renOb_mk (m := k) (fun a b _ _ => hinj a b) (fun p hp => (ho p hp).1) e2, rfl, rfl, Row.imp.refl _ _⟩
  have hS1 := hren.sim hS
  refine (h.calls (β.ren k π) xs w hS1 (F2.renR hA ha)).mono ?_
  rintro e w' ⟨x, β', he, hR, hS', st⟩
  let f : Nat → Option (Option Bl) := fun id => if id < n then β.nm id else if id < n + (n1 - k) then β'.nm (id - n + k) else none
  have hag : ∀ id q, lower n1 id = true → β'.nm id = some q → f (π id) = some q := by
    intro id q hid hq
    have hid : id < n1 := Nat.le_of_ble_eq_true hid
    by_cases h1 : id < k
    · obtain ⟨o, e1⟩ := hall id h1
      obtain ⟨q', k1, _⟩ := hS1.ob id o e1
      have k2 := st.le.nm id q' h1 k1
      rw [hq] at k2; cases k2
      rw [Bt.ren_nm (by simp [lower, Nat.blt]; omega)] at k1
      simp only [f]
      rw [if_pos (p1 id h1).2]; exact k1
    · have := p2 id (by omega)
      simp only [f]
      rw [this, if_neg (by omega), if_pos (by omega), show n + (id - k) - n + k = id by omega]
      exact hq
  have hwr : ∀ b, Wr ⟨β'.g, f⟩ (obOf (renOb π ob')).get b → Wr β' (obOf ob').get b := by
    rintro b ⟨j, o, p, e1, e2, e3, e4⟩
    obtain ⟨id, o2, k1, rfl, rfl⟩ := renOb_get e1
    obtain ⟨q, l1, _⟩ := hS'.ob id o2 k1
    have hm := (ho' _ (obOf_get _ _ _ k1)).1
    have l2 := hag id q (by simp [lower, Nat.blt]; omega) l1
    have e3 : f (π id) = some (some p) := e3
    rw [l2] at e3; cases e3
    exact ⟨id, o2, p, k1, e2, l1, e4⟩
  refine ⟨x, ⟨β'.g, f⟩, he, R.wid hag hR hr, ⟨⟨hS'.env, fun j o e1 => ?_, fun j o j' o' p p' e1 hr' e2 hne hp hp' => ?_, fun b cs hb => ⟨(hS'.fzs b cs hb).1, fun hc => (hS'.fzs b cs hb).2.1 (hwr b hc), (hS'.fzs b cs hb).2.2⟩, fun b c hb => ⟨(hS'.kvs b c hb).1, fun hc => (hS'.kvs b c hb).2 (hwr b hc)⟩⟩, fun id hid => ?_⟩, ⟨⟨st.le.g, fun id q hid hq => ?_⟩, st.os, st.tape, st.output, st.size, fun b h1 h2 h3 => st.fr b h1 (fun hc => h2 (hren.wr hc)) h3, fun b hb => (st.own b (hwr b hb)).imp_left hren.wr, fun b cs hb => (st.fzn b cs hb).imp_right fun x => x.imp_left hren.wr, fun b c hb => (st.kvn b c hb).imp_right fun x => x.imp_left hren.wr⟩⟩
  · obtain ⟨id, o2, k1, rfl, rfl⟩ := renOb_get e1
    obtain ⟨q, l1, l2⟩ := hS'.ob id o2 k1
    have hm := ho' _ (obOf_get _ _ _ k1)
    refine ⟨q, hag id q (by have := hm.1; simp [lower, Nat.blt]; omega) l1, ?_⟩
    cases q with
    | none => exact RH.wid hag (show RH β' o2.row [] from l2) hm.2
    | some p =>
      obtain ⟨m1, cur, ys, rest, fz, m2, m3, m4, m5, m6, m7⟩ := l2
      exact ⟨m1, cur, ys, rest, fz, m2, m3, m4, RH.wid hag m5 hm.2, m6, m7⟩
  · obtain ⟨id, o2, k1, rfl, rfl⟩ := renOb_get e1
    obtain ⟨id', o2', k1', rfl, rfl⟩ := renOb_get e2
    obtain ⟨q, l1, _⟩ := hS'.ob id o2 k1
    obtain ⟨q', l1', _⟩ := hS'.ob id' o2' k1'
    have hm := (ho' _ (obOf_get _ _ _ k1)).1
    have hm' := (ho' _ (obOf_get _ _ _ k1')).1
    have l2 := hag id q (by simp [lower, Nat.blt]; omega) l1
    have l2' := hag id' q' (by simp [lower, Nat.blt]; omega) l1'
    have hp : f (π id) = some (some p) := hp
    have hp' : f (π id') = some (some p') := hp'
    rw [l2] at hp; cases hp
    rw [l2'] at hp'; cases hp'
    exact hS'.sep id o2 id' o2' p p' k1 hr' k1' (fun hc => hne (by rw [hc])) l1 l1'
  · show f id = none
    simp only [f]
    rw [if_neg (by omega), if_neg (by omega)]
  · show f id = some q
    simp only [f]
    rw [if_pos hid]; exact hq

/-! ### the contracts -/
structure FRes where
  r : V
  n : Nat
  ob : List (Nat × Ob)
  ok : List B
/-- a function: arguments and objects before, names below 'k'; what it gives, and the objects then. -/
structure FCon where
  g : FuncId
  args : List V
  k : Nat
  ob : List (Nat × Ob)
  t : T FRes
def FConOk (P : Program) (c : FCon) : Prop := ∀ ρ q, c.t.pick ρ = some q → okOk ρ q.ok → Spec P ρ c.g c.args c.k (obOf c.ob).get q.r q.n (obOf q.ob).get
def obsIn (k : Nat) (ob : List (Nat × Ob)) : Bool := ob.all fun p => Nat.blt p.1 k && p.2.row.inn (lower k)
def FCon.good (c : FCon) : Bool := c.args.all (V.inn (lower c.k)) && obsIn c.k c.ob && (List.range c.k).all fun id => ((obOf c.ob).get id).isSome
def FRes.good (k : Nat) (q : FRes) : Bool := Nat.ble k q.n && q.r.inn (lower q.n) && obsIn q.n q.ob
/-! which names are meant -/
def V.nm0 : V → V → List (Nat × Nat)
  | .ptr i _ _ _, .ptr j _ _ _ => [(i, j)]
  | .sl i _ _ _ _ _, .sl j _ _ _ _ _ => [(i, j)]
  | _, _ => []
def V.nms0 : List V → List V → List (Nat × Nat)
  | a :: as, b :: bs => V.nm0 a b ++ V.nms0 as bs
  | _, _ => []
def V.nm1 : V → V → List (Nat × Nat)
  | .fn _ a b, .fn _ a' b' => V.nms0 a a' ++ V.nms0 b b'
  | v, w => V.nm0 v w
def V.nms1 : List V → List V → List (Nat × Nat)
  | a :: as, b :: bs => V.nm1 a b ++ V.nms1 as bs
  | _, _ => []
def V.nm2 : V → V → List (Nat × Nat)
  | .agg cs, .agg ds => V.nms1 cs ds
  | v, w => V.nm1 v w
def V.nms2 : List V → List V → List (Nat × Nat)
  | a :: as, b :: bs => V.nm2 a b ++ V.nms2 as bs
  | _, _ => []
def rowNm : Option Ob → Option Ob → List (Nat × Nat)
  | some ⟨.any cs, _, _⟩, some ⟨.any ds, _, _⟩ => V.nms1 cs ds
  | _, _ => []
def namesOf (ob : Tr Ob) (σ : Sto) : Nat → List (Nat × Nat) → Tr Nat → Tr Nat
  | 0, _, t => t
  | _, [], t => t
  | m + 1, p :: l, t => match t.get p.1 with
    | some _ => namesOf ob σ m l t
    | none => namesOf ob σ m (rowNm (ob.get p.1) (σ p.2) ++ l) (t.put p.1 (some p.2))
def FCon.names (c : FCon) (args : List V) (σ : Sto) (n : Nat) : List Nat :=
  let t := namesOf (obOf c.ob) σ 200 (V.nms2 c.args args) .nil
  (List.range c.k).map fun i => (t.get i).getD n
def obAs (π : Nat → Nat) (s : Sub) (o : Ob) : Ob := Ob.sub ⟨o.row.ren π, o.rw, o.e⟩ s
def FRes.cr (c : FCon) (al : List Nat) (π : Nat → Nat) (s : Sub) (q : FRes) (kn : Kn) : CR :=
  ((q.r.ren π).sub s, (List.range (q.n - c.k)).map (fun i => ((obOf q.ob).get (c.k + i)).map (obAs π s)), (List.range c.k).map (fun i => (al.getD i 0, ((obOf q.ob).get i).map (obAs π s))), q.ok.map (·.sub s), kn)
def askF (c : FCon) (al : List Nat) (π : Nat → Nat) (s : Sub) : T FRes → Kn → T CR
  | .leaf q, kn => if q.good c.k then .leaf (q.cr c al π s kn) else .dead
  | .br b l r, kn => ask (b.sub s) kn fun t kn => bif t then askF c al π s l kn else askF c al π s r kn
  | .dead, _ => .dead
theorem askF_ok {ρ : Env} {c : FCon} {al : List Nat} {π : Nat → Nat} {s : Sub} (hs : s.nix) : ∀ {t : T FRes} {kn : Kn} {z : CR}, knOk ρ kn → (askF c al π s t kn).pick ρ = some z → ∃ q kn', knOk ρ kn' ∧ t.pick (ρ.sub s) = some q ∧ z = q.cr c al π s kn' ∧ q.good c.k = true
  | .leaf q, kn, z, hk, h => by
    unfold askF at h
    split at h
    · rename_i hc
      simp only [T.pick, Option.some.injEq] at h
      exact ⟨q, kn, hk, rfl, h.symm, hc⟩
    · cases h
  | .br b l r, kn, z, hk, h => by
    unfold askF at h
    obtain ⟨kn1, h1, h2⟩ := ask_ok (b.sub s) (k := fun t kn => bif t then askF c al π s l kn else askF c al π s r kn) hk
    rw [h2, B.sub_den hs] at h
    cases hc : b.den (ρ.sub s) with
    | true =>
      rw [hc] at h
      simp only [T.pick, hc, cond_true]
      exact askF_ok hs h1 h
    | false =>
      rw [hc] at h
      simp only [T.pick, hc, cond_false]
      exact askF_ok hs h1 h
  | .dead, _, _, _, h => by cases h
def FCon.use (c : FCon) (args : List V) (n : Nat) (σ : Sto) (kn : Kn) : Option (T CR) :=
  let al := c.names args σ n
  let π := nameMap al c.k n
  let obs := renOb π c.ob
  if c.good && apartN al && al.all (fun a => Nat.blt a n) then match rowsOf σ obs with
    | none => none
    | some rs =>
      let pats := c.args.map (V.ren π)
      let vs := fitsA pats args
      let s := (matsR obs rs (V.mats pats vs mt0)).done
      if s.noix && V.sames (V.subs pats s) vs && samesR s obs rs then some (askF c al π s c.t kn) else none
  else none
theorem Spec.impS {P : Program} {ρ : Env} {g : FuncId} {args : List V} {r : V} {n n' : Nat} {σ τ σ' : Sto} (h : Spec P ρ g args n τ r n' σ') (hi : Sto.imp ρ σ τ) : Spec P ρ g args n σ r n' σ' :=
  ⟨h.there, fun β xs w hS hA => (h.calls β xs w (hS.imp hi) hA).mono fun e w' ⟨x, β', he, hR, hS', st⟩ => ⟨x, β', he, hR, hS', st.impAt hi⟩⟩
theorem FCon.use_ok {P : Program} {ρ : Env} {c : FCon} (hc : FConOk P c) {args : List V} {n : Nat} {σ : Sto} {kn : Kn} {t : T CR} {r : V} {news : List (Option Ob)} {muts : List (Nat × Option Ob)} {bs : List B} {kn' : Kn} (hk : knOk ρ kn)
    (h : c.use args n σ kn = some t) (hp : t.pick ρ = some (r, news, muts, bs, kn')) : knOk ρ kn' ∧ (okOk ρ bs → Spec P ρ c.g args n σ r (n + news.length) (ext n σ news muts)) := by
  unfold FCon.use at h
  simp only at h
  have hlen : (c.names args σ n).length = c.k := by unfold FCon.names; simp
  generalize c.names args σ n = al at h hlen
  split at h
  · rename_i hgood
    split at h
    · cases h
    · rename_i rs hrs
      generalize hsq : (matsR (renOb (nameMap al c.k n) c.ob) rs _).done = s at h
      split at h
      · rename_i hcnd
        simp only [Bool.and_eq_true] at hcnd hgood
        obtain ⟨⟨hg, hap⟩, hlt⟩ := hgood
        simp only [FCon.good, Bool.and_eq_true] at hg
        obtain ⟨⟨ga, gob⟩, gall⟩ := hg
        have hsn := Sub.noix_ok hcnd.1.1
        cases h
        obtain ⟨q, kn1, h1, h2, h3, h4⟩ := askF_ok hsn hk hp
        simp only [FRes.cr, Prod.mk.injEq] at h3
        obtain ⟨rfl, rfl, rfl, rfl, rfl⟩ := h3
        simp only [FRes.good, Bool.and_eq_true] at h4
        obtain ⟨⟨q1, q2⟩, q3⟩ := h4
        have q1 := Nat.le_of_ble_eq_true q1
        refine ⟨h1, fun hok => ?_⟩
        have hok' : okOk (ρ.sub s) q.ok := fun b hb => by
          rw [← B.sub_den hsn]; exact hok _ (List.mem_map.2 ⟨b, hb, rfl⟩)
        have hlt : ∀ a ∈ al, a < n := fun a ha => Nat.le_of_ble_eq_true (List.all_eq_true.1 hlt a ha)
        have inOk : ∀ {k : Nat} {ob : List (Nat × Ob)}, obsIn k ob = true → ∀ p ∈ ob, p.1 < k ∧ p.2.row.inn (lower k) = true := fun {k ob} hh p hp => by
          have := List.all_eq_true.1 hh p hp
          simp only [Bool.and_eq_true] at this
          exact ⟨Nat.le_of_ble_eq_true this.1, this.2⟩
        have hall : ∀ id, id < c.k → ∃ o, (obOf c.ob).get id = some o := fun id hid => Option.isSome_iff_exists.1 (List.all_eq_true.1 gall id (List.mem_range.2 hid))
        have k1 := ((hc (ρ.sub s) q h2 hok').named hlen hlt hap q1 ga q2 (inOk gob) hall (inOk q3)).sub2 hsn
        generalize hπ : nameMap al c.k n = π at *
        have p1 : ∀ id, id < c.k → π id = al.getD id 0 := fun id hid => by rw [← hπ]; exact nameMap_lt hid
        have p2 : ∀ id, c.k ≤ id → π id = n + (id - c.k) := fun id hid => by rw [← hπ]; exact nameMap_ge hid
        have pl : ∀ id, id < c.k → π id < n := fun id hid => by
          rw [p1 id hid, List.getD, List.getElem?_eq_getElem (by omega)]
          exact hlt _ (List.getElem_mem _)
        have hinj : ∀ a b, a < q.n → b < q.n → π a = π b → a = b := fun a b _ _ e => by
          by_cases h1 : a < c.k <;> by_cases h2 : b < c.k
          · rw [p1 a h1, p1 b h2] at e
            exact apartN_get hap a b (by omega) (by omega) e
          · have := pl a h1; rw [e, p2 b (by omega)] at this; omega
          · have := pl b h2; rw [← e, p2 a (by omega)] at this; omega
          · rw [p2 a (by omega), p2 b (by omega)] at e; omega
        let σ1 : Sto := Sto.sub (obOf (renOb π c.ob)).get s
        let τ1 : Sto := fun id => match σ1 id with
          | some o => some o
          | none => σ id
        have hi : Sto.imp ρ σ τ1 := by
          intro id o' e'
          simp only [τ1] at e'
          split at e'
          · rename_i o1 ho1
            cases e'
            obtain ⟨o2, k2, rfl⟩ := Sto.sub_some ho1
            exact imps_ob hrs hcnd.2 (id, o2) (obOf_get _ _ _ k2)
          · exact ⟨o', e', rfl, rfl, Row.imp.refl _ _⟩
        have hle : σ1.le τ1 := fun id o' e' => by simp only [τ1, e']
        have k2 := (Spec.frame hle k1).impS hi
        have k3 : Spec P ρ c.g args n σ _ _ _ := k2.weak fun β xs hF => by rw [V.sames_ok hcnd.1.2]; exact fitsA_ok hF
        simp only [List.length_map, List.length_range]
        refine k3.fewer fun hids id o ho => ?_
        have hget : ∀ i o, i < q.n → ((obOf q.ob).get i).map (obAs π s) = some o → Sto.sub (obOf (renOb π q.ob)).get s (π i) = some o := fun i o hi' e => by
          obtain ⟨o2, e2, rfl⟩ := Option.map_eq_some_iff.1 e
          exact Sto.sub_mk (renOb_mk hinj (fun p hp => (inOk q3 p hp).1) e2)
        unfold ext at ho
        simp only [List.length_map, List.length_range] at ho
        unfold Sto.over
        split at ho
        · rename_i hc2
          simp only [Bool.and_eq_true] at hc2
          have hge : n ≤ id := Nat.le_of_ble_eq_true hc2.1
          have hlt2 : id < n + (q.n - c.k) := Nat.le_of_ble_eq_true hc2.2
          rw [if_pos hc2.1]
          rw [List.getElem?_map, List.getElem?_range (by omega)] at ho
          simp only [Option.map_some] at ho
          have := hget (c.k + (id - n)) o (by omega) (by
            revert ho
            cases (obOf q.ob).get (c.k + (id - n)) with
            | none => intro ho; cases ho
            | some o => intro ho; exact ho)
          rwa [p2 _ (by omega), show n + (c.k + (id - n) - c.k) = id by omega] at this
        · split at ho
          · rename_i x hx
            have hm := List.mem_of_find?_eq_some hx
            have hb := List.find?_some hx
            have hb := Nat.eq_of_beq_eq_true hb
            obtain ⟨i, hi1, rfl⟩ := List.mem_map.1 hm
            have hi1 := List.mem_range.1 hi1
            simp only at hb ho
            subst hb
            rw [← p1 i hi1]
            rw [if_neg (by have := pl i hi1; simp; omega)]
            have hsm : (σ1 (π i)).isSome = true := by
              obtain ⟨o3, ho3⟩ := hall i hi1
              have := Sto.sub_mk (s := s) (renOb_mk hinj (fun p hp => by have := (inOk gob p hp).1; omega) ho3)
              simp only [σ1]
              rw [this]; rfl
            rw [if_pos hsm]
            exact hget i o (by omega) ho
          · rename_i hx
            have hidn := hids id o ho
            rw [if_neg (by simp; omega)]
            have hno : σ1 id = none := by
              cases e : σ1 id with
              | none => rfl
              | some o3 =>
                obtain ⟨o4, e4, _⟩ := Sto.sub_some e
                obtain ⟨i, o5, e5, rfl, _⟩ := renOb_get e4
                have hi5 := (inOk gob _ (obOf_get _ _ _ e5)).1
                have hi5 : i < c.k := hi5
                have := List.find?_eq_none.1 hx (al.getD i 0, ((obOf q.ob).get i).map (obAs π s)) (List.mem_map.2 ⟨i, List.mem_range.2 hi5, rfl⟩)
                rw [p1 i hi5] at this
                simp at this
            rw [if_neg (by rw [hno]; simp)]
            simp only [τ1, hno]
            exact ho
      · cases h
  · cases h
/-! ### lent -/
def FRes.lendable (π : Nat → Nat) (s : Sub) (q : FRes) : Bool := ((q.r.ren π).sub s).nofz && q.ob.all fun p => p.2.rw && ((p.2.row.ren π).sub s).nofz
def askG (c : FCon) (π : Nat → Nat) (s : Sub) : T FRes → Kn → T CR
  | .leaf q, kn => if q.good c.k && q.lendable π s then .leaf (q.cr c [] π s kn) else .dead
  | .br b l r, kn => ask (b.sub s) kn fun t kn => bif t then askG c π s l kn else askG c π s r kn
  | .dead, _ => .dead
theorem askG_ok {ρ : Env} {c : FCon} {π : Nat → Nat} {s : Sub} (hs : s.nix) : ∀ {t : T FRes} {kn : Kn} {z : CR}, knOk ρ kn → (askG c π s t kn).pick ρ = some z → ∃ q kn', knOk ρ kn' ∧ t.pick (ρ.sub s) = some q ∧ z = q.cr c [] π s kn' ∧ q.good c.k = true ∧ q.lendable π s = true
  | .leaf q, kn, z, hk, h => by
    unfold askG at h
    split at h
    · rename_i hc
      simp only [Bool.and_eq_true] at hc
      simp only [T.pick, Option.some.injEq] at h
      exact ⟨q, kn, hk, rfl, h.symm, hc.1, hc.2⟩
    · cases h
  | .br b l r, kn, z, hk, h => by
    unfold askG at h
    obtain ⟨kn1, h1, h2⟩ := ask_ok (b.sub s) (k := fun t kn => bif t then askG c π s l kn else askG c π s r kn) hk
    rw [h2, B.sub_den hs] at h
    cases hc : b.den (ρ.sub s) with
    | true =>
      rw [hc] at h
      simp only [T.pick, hc, cond_true]
      exact askG_ok hs h1 h
    | false =>
      rw [hc] at h
      simp only [T.pick, hc, cond_false]
      exact askG_ok hs h1 h
  | .dead, _, _, _, h => by cases h
def isNil {α : Type} : List α → Bool
  | [] => true
  | _ => false
def FCon.useL (c : FCon) (args : List V) (n : Nat) (σ : Sto) (kn : Kn) : Option (T CR) :=
  if Nat.beq c.k 0 && c.good && isNil c.ob then
    let D := reach σ 1000 (args.flatMap V.ids) []
    match deepsA (frz D σ) 2000 args with
    | none => none
    | some ds =>
      let π := nameMap [] 0 n
      let pats := c.args.map (V.ren π)
      let es := fitsA pats ds
      let s := (V.mats pats es mt0).done
      if s.noix && V.sames (V.subs pats s) es then some (askG c π s c.t kn) else none
  else none
theorem FCon.useL_ok {P : Program} {ρ : Env} {c : FCon} (hc : FConOk P c) {args : List V} {n : Nat} {σ : Sto} {kn : Kn} {t : T CR} {r : V} {news : List (Option Ob)} {muts : List (Nat × Option Ob)} {bs : List B} {kn' : Kn} (hk : knOk ρ kn)
    (h : c.useL args n σ kn = some t) (hp : t.pick ρ = some (r, news, muts, bs, kn')) : knOk ρ kn' ∧ (okOk ρ bs → Spec P ρ c.g args n σ r (n + news.length) (ext n σ news muts)) := by
  unfold FCon.useL at h
  simp only at h
  split at h
  · rename_i hgood
    generalize hD : reach σ 1000 (args.flatMap V.ids) [] = D at h
    split at h
    · cases h
    · rename_i ds hds
      generalize hsq : (V.mats (c.args.map (V.ren (nameMap [] 0 n))) _ mt0).done = s at h
      split at h
      · rename_i hcnd
        simp only [Bool.and_eq_true] at hcnd hgood
        obtain ⟨⟨hk0, hg⟩, hnil⟩ := hgood
        have hk0 : c.k = 0 := Nat.eq_of_beq_eq_true hk0
        have hob : c.ob = [] := by
          cases e : c.ob with
          | nil => rfl
          | cons => rw [e] at hnil; cases hnil
        simp only [FCon.good, Bool.and_eq_true] at hg
        obtain ⟨⟨ga, gob⟩, gall⟩ := hg
        have hsn := Sub.noix_ok hcnd.1
        cases h
        obtain ⟨q, kn1, h1, h2, h3, h4, h5⟩ := askG_ok hsn hk hp
        simp only [FRes.cr, Prod.mk.injEq] at h3
        obtain ⟨rfl, rfl, rfl, rfl, rfl⟩ := h3
        simp only [FRes.good, Bool.and_eq_true] at h4
        obtain ⟨⟨q1, q2⟩, q3⟩ := h4
        simp only [FRes.lendable, Bool.and_eq_true] at h5
        obtain ⟨l1, l2⟩ := h5
        refine ⟨h1, fun hok => ?_⟩
        have hok' : okOk (ρ.sub s) q.ok := fun b hb => by
          rw [← B.sub_den hsn]; exact hok _ (List.mem_map.2 ⟨b, hb, rfl⟩)
        have inOk : ∀ {k : Nat} {ob : List (Nat × Ob)}, obsIn k ob = true → ∀ p ∈ ob, p.1 < k ∧ p.2.row.inn (lower k) = true := fun {k ob} hh p hp => by
          have := List.all_eq_true.1 hh p hp
          simp only [Bool.and_eq_true] at this
          exact ⟨Nat.le_of_ble_eq_true this.1, this.2⟩
        rw [hk0] at ga
        have hc0 := hc (ρ.sub s) q h2 hok'
        rw [hk0, hob] at hc0
        have k1 := (hc0.named (al := []) (n := n) rfl (fun a ha => by cases ha) rfl (Nat.zero_le _) ga q2 (fun p hp => by cases hp) (fun id hid => absurd hid (by omega)) (inOk q3)).sub2 hsn
        rw [hk0]
        generalize hπ : nameMap [] 0 n = π at *
        have p2 : ∀ id, π id = n + id := fun id => by rw [← hπ, nameMap_ge (Nat.zero_le _)]; rfl
        have hinj : ∀ a b, a < q.n → b < q.n → π a = π b → a = b := fun a b _ _ e => by rw [p2, p2] at e; omega
        have hempty : Sto.sub (obOf (renOb π [])).get s = no := by
          funext id; rfl
        rw [hempty] at k1
        have k2 : Spec P ρ c.g ds n no _ _ _ := k1.weak fun β xs hF => by rw [V.sames_ok hcnd.2]; exact fitsA_ok hF
        have k3 := k2.lend hds l1 fun id o ho => by
          obtain ⟨o2, e2, rfl⟩ := Sto.sub_some ho
          obtain ⟨i, o3, e3, _, rfl⟩ := renOb_get e2
          have := List.all_eq_true.1 l2 _ (obOf_get _ _ _ e3)
          simp only [Bool.and_eq_true] at this
          exact this
        simp only [List.length_map, List.length_range]
        refine k3.fewer fun hids id o ho => ?_
        unfold ext at ho
        simp only [List.length_map, List.length_range] at ho
        unfold Sto.over
        split at ho
        · rename_i hc2
          simp only [Bool.and_eq_true] at hc2
          have hge : n ≤ id := Nat.le_of_ble_eq_true hc2.1
          have hlt2 : id < n + (q.n - 0) := Nat.le_of_ble_eq_true hc2.2
          rw [if_pos hc2.1]
          rw [List.getElem?_map, List.getElem?_range (by omega)] at ho
          simp only [Option.map_some] at ho
          have e1 : ((obOf q.ob).get (0 + (id - n))).map (obAs π s) = some o := by
            revert ho
            cases (obOf q.ob).get (0 + (id - n)) with
            | none => intro ho; cases ho
            | some o => intro ho; exact ho
          obtain ⟨o2, e2, rfl⟩ := Option.map_eq_some_iff.1 e1
          have := Sto.sub_mk (s := s) (renOb_mk hinj (fun p hp => (inOk q3 p hp).1) e2)
          rwa [p2, show n + (0 + (id - n)) = id by omega] at this
        · split at ho
          · rename_i x hx
            have hm := List.mem_of_find?_eq_some hx
            obtain ⟨i, hi1, _⟩ := List.mem_map.1 hm
            exact absurd (List.mem_range.1 hi1) (by omega)
          · have hidn := hids id o ho
            rw [if_neg (by simp; omega), if_neg (by simp [no])]
            exact ho
      · cases h
  · cases h
def FCon.useC (c : FCon) (args : List V) (n : Nat) (σ : Sto) (kn : Kn) : Option (T CR) :=
  if Nat.beq c.k 0 && c.good && isNil c.ob then
    let D := reach σ 1000 (args.flatMap V.ids) []
    match cutArgs (frz D σ) args with
    | none => none
    | some (ds, bs0) =>
      let π := nameMap [] 0 n
      let pats := c.args.map (V.ren π)
      let es := fitsA pats ds
      let s := (V.mats pats es mt0).done
      if s.noix && V.sames (V.subs pats s) es then some ((askG c π s c.t kn).bind fun z => .leaf (z.1, z.2.1, z.2.2.1, bs0 ++ z.2.2.2.1, z.2.2.2.2)) else none
  else none
theorem FCon.useC_ok {P : Program} {ρ : Env} {c : FCon} (hc : FConOk P c) {args : List V} {n : Nat} {σ : Sto} {kn : Kn} {t : T CR} {r : V} {news : List (Option Ob)} {muts : List (Nat × Option Ob)} {bs : List B} {kn' : Kn} (hk : knOk ρ kn)
    (h : c.useC args n σ kn = some t) (hp : t.pick ρ = some (r, news, muts, bs, kn')) : knOk ρ kn' ∧ (okOk ρ bs → Spec P ρ c.g args n σ r (n + news.length) (ext n σ news muts)) := by
  unfold FCon.useC at h
  simp only at h
  split at h
  · rename_i hgood
    generalize hD : reach σ 1000 (args.flatMap V.ids) [] = D at h
    split at h
    · cases h
    · rename_i ds bs0 hds
      generalize hsq : (V.mats (c.args.map (V.ren (nameMap [] 0 n))) _ mt0).done = s at h
      split at h
      · rename_i hcnd
        simp only [Bool.and_eq_true] at hcnd hgood
        obtain ⟨⟨hk0, hg⟩, hnil⟩ := hgood
        have hk0 : c.k = 0 := Nat.eq_of_beq_eq_true hk0
        have hob : c.ob = [] := by
          cases e : c.ob with
          | nil => rfl
          | cons => rw [e] at hnil; cases hnil
        simp only [FCon.good, Bool.and_eq_true] at hg
        obtain ⟨⟨ga, gob⟩, gall⟩ := hg
        have hsn := Sub.noix_ok hcnd.1
        cases h
        obtain ⟨⟨r0, news0, muts0, bsq, kn0⟩, hp0, hz⟩ := T.bind_some hp
        cases hz
        obtain ⟨q, kn1, h1, h2, h3, h4, h5⟩ := askG_ok hsn hk hp0
        simp only [FRes.cr, Prod.mk.injEq] at h3
        obtain ⟨rfl, rfl, rfl, rfl, rfl⟩ := h3
        simp only [FRes.good, Bool.and_eq_true] at h4
        obtain ⟨⟨q1, q2⟩, q3⟩ := h4
        simp only [FRes.lendable, Bool.and_eq_true] at h5
        obtain ⟨l1, l2⟩ := h5
        refine ⟨h1, fun hokA => ?_⟩
        have hok0 : okOk ρ bs0 := fun b hb => hokA b (List.mem_append_left _ hb)
        have hok := fun b hb => hokA b (List.mem_append_right bs0 hb)
        have hok' : okOk (ρ.sub s) q.ok := fun b hb => by
          rw [← B.sub_den hsn]; exact hok _ (List.mem_map.2 ⟨b, hb, rfl⟩)
        have inOk : ∀ {k : Nat} {ob : List (Nat × Ob)}, obsIn k ob = true → ∀ p ∈ ob, p.1 < k ∧ p.2.row.inn (lower k) = true := fun {k ob} hh p hp => by
          have := List.all_eq_true.1 hh p hp
          simp only [Bool.and_eq_true] at this
          exact ⟨Nat.le_of_ble_eq_true this.1, this.2⟩
        rw [hk0] at ga
        have hc0 := hc (ρ.sub s) q h2 hok'
        rw [hk0, hob] at hc0
        have k1 := (hc0.named (al := []) (n := n) rfl (fun a ha => by cases ha) rfl (Nat.zero_le _) ga q2 (fun p hp => by cases hp) (fun id hid => absurd hid (by omega)) (inOk q3)).sub2 hsn
        rw [hk0]
        generalize hπ : nameMap [] 0 n = π at *
        have p2 : ∀ id, π id = n + id := fun id => by rw [← hπ, nameMap_ge (Nat.zero_le _)]; rfl
        have hinj : ∀ a b, a < q.n → b < q.n → π a = π b → a = b := fun a b _ _ e => by rw [p2, p2] at e; omega
        have hempty : Sto.sub (obOf (renOb π [])).get s = no := by
          funext id; rfl
        rw [hempty] at k1
        have k2 : Spec P ρ c.g ds n no _ _ _ := k1.weak fun β xs hF => by rw [V.sames_ok hcnd.2]; exact fitsA_ok hF
        have k3 := k2.lendG (fun β1 w xs h4 hA => cutArgs_ok h4 hds hok0 hA) l1 fun id o ho => by
          obtain ⟨o2, e2, rfl⟩ := Sto.sub_some ho
          obtain ⟨i, o3, e3, _, rfl⟩ := renOb_get e2
          have := List.all_eq_true.1 l2 _ (obOf_get _ _ _ e3)
          simp only [Bool.and_eq_true] at this
          exact this
        simp only [List.length_map, List.length_range]
        refine k3.fewer fun hids id o ho => ?_
        unfold ext at ho
        simp only [List.length_map, List.length_range] at ho
        unfold Sto.over
        split at ho
        · rename_i hc2
          simp only [Bool.and_eq_true] at hc2
          have hge : n ≤ id := Nat.le_of_ble_eq_true hc2.1
          have hlt2 : id < n + (q.n - 0) := Nat.le_of_ble_eq_true hc2.2
          rw [if_pos hc2.1]
          rw [List.getElem?_map, List.getElem?_range (by omega)] at ho
          simp only [Option.map_some] at ho
          have e1 : ((obOf q.ob).get (0 + (id - n))).map (obAs π s) = some o := by
            revert ho
            cases (obOf q.ob).get (0 + (id - n)) with
            | none => intro ho; cases ho
            | some o => intro ho; exact ho
          obtain ⟨o2, e2, rfl⟩ := Option.map_eq_some_iff.1 e1
          have := Sto.sub_mk (s := s) (renOb_mk hinj (fun p hp => (inOk q3 p hp).1) e2)
          rwa [p2, show n + (0 + (id - n)) = id by omega] at this
        · split at ho
          · rename_i x hx
            have hm := List.mem_of_find?_eq_some hx
            obtain ⟨i, hi1, _⟩ := List.mem_map.1 hm
            exact absurd (List.mem_range.1 hi1) (by omega)
          · have hidn := hids id o ho
            rw [if_neg (by simp; omega), if_neg (by simp [no])]
            exact ho
      · cases h
  · cases h
def FCon.useA (c : FCon) (args : List V) (n : Nat) (σ : Sto) (kn : Kn) : Option (T CR) := match c.use args n σ kn with
  | some t => some t
  | none => match c.useL args n σ kn with
    | some t => some t
    | none => c.useC args n σ kn
theorem FCon.useA_ok {P : Program} {ρ : Env} {c : FCon} (hc : FConOk P c) {args : List V} {n : Nat} {σ : Sto} {kn : Kn} {t : T CR} {r : V} {news : List (Option Ob)} {muts : List (Nat × Option Ob)} {bs : List B} {kn' : Kn} (hk : knOk ρ kn)
    (h : c.useA args n σ kn = some t) (hp : t.pick ρ = some (r, news, muts, bs, kn')) : knOk ρ kn' ∧ (okOk ρ bs → Spec P ρ c.g args n σ r (n + news.length) (ext n σ news muts)) := by
  unfold FCon.useA at h
  split at h
  · rename_i t' ht; cases h; exact FCon.use_ok hc hk ht hp
  · split at h
    · rename_i t' ht; cases h; exact FCon.useL_ok hc hk ht hp
    · exact FCon.useC_ok hc hk h hp
def tabF : List FCon → TT → TT
  | [], tt => tt
  | c :: cs, tt => fun g args n σ kn => if Nat.beq c.g g then (match c.useA args n σ kn with
      | some t => some t
      | none => tabF cs tt g args n σ kn)
    else tabF cs tt g args n σ kn
theorem tabF_ok {P : Program} {ρ : Env} {tt : TT} (htt : TTOk P ρ tt) : ∀ {cs : List FCon}, (∀ c ∈ cs, FConOk P c) → TTOk P ρ (tabF cs tt)
  | [], _ => htt
  | c :: cs, h => by
    intro g args n σ kn t r news muts bs kn' hk ht hp
    have ih := tabF_ok (P := P) (ρ := ρ) htt (cs := cs) fun c hc => h c (by simp [hc])
    unfold tabF at ht
    split at ht
    · rename_i hg
      have := Nat.eq_of_beq_eq_true hg
      subst this
      split at ht
      · rename_i t' ht'
        cases ht
        exact FCon.useA_ok (h c (by simp)) hk ht' hp
      · exact ih _ args n σ kn t r news muts bs kn' hk ht hp
    · exact ih g args n σ kn t r news muts bs kn' hk ht hp
end Go.Proofs.YtmckhoaekbeijaaGreat.E
/- Contracts of functions on objects, from their code. Plain Lean over the kit's model; no program. -/
namespace Go.Proofs.YtmckhoaekbeijaaGreat.E
open Go Go.RowKit
set_option linter.unusedVariables false

theorem Spec.ren {P : Program} {ρ : Env} {g : FuncId} {args : List V} {k n' n2 : Nat} {σ σ' σ2 : Sto} {r r2 : V} {π : Nat → Nat} (h : Spec P ρ g args k σ r n' σ') (hR : Ren ρ k π (fun _ => r) σ' (fun _ => r2) n2 σ2) : Spec P ρ g args k σ r2 n2 σ2 := by
  refine ⟨h.there, fun β xs w hS hA => (h.calls β xs w hS hA).mono fun e w' ⟨x, β', he, hx, hS', st⟩ => ⟨x, β'.ren n2 π, he, R.ren ((hR.fr 0).1 β' x hS'.env hx) (hR.fr 0).2, hR.sim hS', ?_⟩⟩
  exact ⟨⟨st.le.g, fun id q hid hq => (hR.nm hid).trans (st.le.nm id q hid hq)⟩, st.os, st.tape, st.output, st.size, st.fr, fun b hb => st.own b (hR.wr hb), st.fzn, st.kvn⟩
/-- a function of the program, the objects being there. -/
def execF (P : Program) (cf : Cf) (fuel depth : Nat) (g : FuncId) (args : List V) (k : Nat) (ob : List (Nat × Ob)) : T (V × St) := match P.funcs[g]? with
  | some fn => if fn.name == "runtime.NumGoroutine" then .dead else dfun P (inl P cf fuel depth) (cf.lp g) (cf.mg g) fuel fn args k (obOf ob) []
  | none => .dead
theorem execF_ok {P : Program} {ρ : Env} (hm : P.follows .mixedOrders = true) {cf : Cf} (hcf : CfOk P cf) {fuel depth : Nat} {g : FuncId} {args : List V} {k : Nat} {ob : List (Nat × Ob)} {r : V} {s : St} (h : (execF P cf fuel depth g args k ob).pick ρ = some (r, s)) (hok : okOk ρ s.ok) : Spec P ρ g args k (obOf ob).get r s.n s.σ := by
  unfold execF at h
  split at h
  · rename_i fn hf
    split at h
    · cases h
    · rename_i hn
      exact (dfun_ok hm (inl_ok hm hcf fuel depth) (fun ρ => hcf.lp ρ g fn hf) hf (by simpa using hn) (fun x hx => by cases hx) h).2.2 hok
  · cases h
def newMap (k : Nat) (d : List Nat) (id : Nat) : Nat := if Nat.blt id k then id else d.getD (id - k) 0
def backMap (k : Nat) (d : List Nat) (id : Nat) : Nat := if Nat.blt id k then id else k + d.idxOf id
def obsBack (π : Nat → Nat) (σ : Sto) : List Nat → Option (List (Nat × Ob))
  | [] => some []
  | id :: l => match σ id, obsBack π σ l with
    | some o, some r => some ((π id, ⟨o.row.ren π, o.rw, o.e⟩) :: r)
    | _, _ => none
def obsChk (π : Nat → Nat) (σ : Sto) (n : Nat) (ob : List (Nat × Ob)) : Bool := ob.all fun p => Nat.blt p.1 n && p.2.row.inn (lower n) && match σ (π p.1) with
  | some o => (o.rw == p.2.rw) && Nat.beq o.e p.2.e && (p.2.row.ren π).same o.row
  | none => false
def compactG (k : Nat) (r0 : V) (σ : Sto) (oks : List B) : T FRes :=
  let d := (reach σ 1000 (r0.ids ++ List.range k) []).filter fun i => Nat.ble k i
  match obsBack (backMap k d) σ ((List.range k).filter (fun i => (σ i).isSome) ++ d) with
  | some ob =>
    let r := r0.ren (backMap k d)
    let n := k + d.length
    if (r.ren (newMap k d)).same r0 && r.inn (lower n) && obsChk (newMap k d) σ n ob && apartN (ob.map fun p => newMap k d p.1) then .leaf ⟨r, n, ob, oks⟩ else .dead
  | none => .dead
theorem compactG_ok {ρ ρ' : Env} {k : Nat} {r0 : V} {σ : Sto} {oks : List B} {z : FRes} (h : (compactG k r0 σ oks).pick ρ' = some z) : z.ok = oks ∧ ∃ π, Ren ρ k π (fun _ => r0) σ (fun _ => z.r) z.n (obOf z.ob).get := by
  unfold compactG at h
  simp only at h
  generalize (List.filter _ _) = d at h
  split at h
  · rename_i ob hob
    split at h
    · rename_i hc
      simp only [Bool.and_eq_true] at hc
      obtain ⟨⟨⟨c1, c2⟩, c3⟩, c4⟩ := hc
      cases h
      refine ⟨rfl, newMap k d, ⟨fun id hid => ?_, Nat.le_add_right _ _, fun t => ⟨?_, c2⟩, fun id o2 e2 => ?_, fun id id' o o' e e' hπ => ?_⟩⟩
      · unfold newMap; rw [if_pos (by simp [Nat.blt]; omega)]
      · show V.imp ρ r0 (V.ren _ _)
        rw [V.same_ok c1]; exact V.imp.refl _ _
      · have := List.all_eq_true.1 c3 _ (obOf_get _ _ _ e2)
        simp only [Bool.and_eq_true] at this
        obtain ⟨⟨d1, d2⟩, d3⟩ := this
        refine ⟨Nat.le_of_ble_eq_true d1, d2, ?_⟩
        split at d3
        · rename_i o ho
          simp only [Bool.and_eq_true, beq_iff_eq] at d3
          exact ⟨o, ho, d3.1.1, Nat.eq_of_beq_eq_true d3.1.2, by rw [Row.same_ok d3.2]; exact Row.imp.refl _ _⟩
        · cases d3
      · have := apartN_ok (fun p : Nat × Ob => newMap k d p.1) c4 _ (obOf_get _ _ _ e) _ (obOf_get _ _ _ e') hπ
        exact congrArg (·.1) this
    · cases h
  · cases h
def compact (k : Nat) (q : V × St) : T FRes := compactG k q.1 q.2.σ q.2.ok
theorem compact_ok {ρ ρ' : Env} {k : Nat} {q : V × St} {z : FRes} (h : (compact k q).pick ρ' = some z) : z.ok = q.2.ok ∧ ∃ π, Ren ρ k π (fun _ => q.1) q.2.σ (fun _ => z.r) z.n (obOf z.ob).get := compactG_ok h
/-- what a result points to, for good: it is told by what stands there. -/
theorem Spec.shutF {P : Program} {ρ : Env} {g : FuncId} {args : List V} {r r' : V} {k n' fu : Nat} {σ σ' : Sto} {D : List Nat} (h : Spec P ρ g args k σ r n' σ') (hr : deepT (frz D σ') fu r = some r') : Spec P ρ g args k σ r' n' (frz D σ') := by
  refine ⟨h.there, fun β xs w hS hA => (h.calls β xs w hS hA).mono ?_⟩
  rintro e w' ⟨x, β1, he, hR, hS1, st⟩
  obtain ⟨β2, h1, h2, h3, h4, h5, h6⟩ := freeze_ok hS1 D
  exact ⟨x, β2, he, deepT_ok h4 rfl hr (hR.mono h3), h4, st.trans (h5 _)⟩
/-- results told by what stands there. -/
def compactS (k : Nat) (q : V × St) : T FRes :=
  let keep := reach q.2.σ 1000 (List.range k) []
  let D := (reach q.2.σ 1000 q.1.ids []).filter fun i => Nat.ble k i && !keep.contains i
  match deepT (frz D q.2.σ) 2000 q.1 with
  | some r => compactG k r (frz D q.2.σ) q.2.ok
  | none => .dead
theorem FCon.ofExecS {P : Program} (hm : P.follows .mixedOrders = true) {cf : Cf} (hcf : CfOk P cf) {fuel depth : Nat} {g : FuncId} {args : List V} {k : Nat} {ob : List (Nat × Ob)} {t : T FRes}
    (h : (execF P cf fuel depth g args k ob).bind (compactS k) = t) : FConOk P ⟨g, args, k, ob, t⟩ := by
  intro ρ z hp hb
  rw [← h] at hp
  obtain ⟨q, h1, h2⟩ := T.bind_some hp
  unfold compactS at h2
  simp only at h2
  split at h2
  · rename_i r hr
    obtain ⟨e, π, hR⟩ := compactG_ok (ρ := ρ) h2
    rw [e] at hb
    exact ((execF_ok hm hcf h1 hb).shutF hr).ren hR
  · cases h2
theorem FCon.ofExec {P : Program} (hm : P.follows .mixedOrders = true) {cf : Cf} (hcf : CfOk P cf) {fuel depth : Nat} {g : FuncId} {args : List V} {k : Nat} {ob : List (Nat × Ob)} {t : T FRes}
    (h : (execF P cf fuel depth g args k ob).bind (compact k) = t) : FConOk P ⟨g, args, k, ob, t⟩ := by
  intro ρ z hp hb
  rw [← h] at hp
  obtain ⟨q, h1, h2⟩ := T.bind_some hp
  obtain ⟨e, π, hR⟩ := compact_ok (ρ := ρ) h2
  rw [e] at hb
  exact (execF_ok hm hcf h1 hb).ren hR
/-- a contract's result in other words. -/
theorem FCon.alt {P : Program} {g : FuncId} {args : List V} {k : Nat} {ob : List (Nat × Ob)} {t t' : T FRes} (h : FConOk P ⟨g, args, k, ob, t⟩)
    (he : ∀ ρ q', t'.pick ρ = some q' → okOk ρ q'.ok → ∃ q, t.pick ρ = some q ∧ okOk ρ q.ok ∧ V.imp ρ q.r q'.r ∧ q.n = q'.n ∧ Sto.imp ρ (obOf q.ob).get (obOf q'.ob).get) : FConOk P ⟨g, args, k, ob, t'⟩ := by
  intro ρ q' hp hb
  obtain ⟨q, h1, h2, h3, h4, h5⟩ := he ρ q' hp hb
  have hs := h ρ q h1 h2
  rw [h4] at hs
  exact ⟨hs.there, fun β xs w hS hA => (hs.calls β xs w hS hA).mono fun e w' ⟨x, β', he, hR, hS', st⟩ =>
    ⟨x, β', he, h3 β' x hS'.env hR, hS'.imp h5, st.le, st.os, st.tape, st.output, st.size, st.fr, fun b hb => st.own b (hb.imp h5), st.fzn, st.kvn⟩⟩
end Go.Proofs.YtmckhoaekbeijaaGreat.E
/- Loops' contracts for other letters, in other words. Plain Lean over the kit's model; no program. -/
namespace Go.Proofs.YtmckhoaekbeijaaGreat.E
open Go Go.RowKit
set_option linter.unusedVariables false
theorem LConOk.subst {P : Program} {g : FuncId} {id : Nat} {ds : List Nat} {fr : List (Nat × V)} {n : Nat} {ob : List (Nat × Ob)} {t : T LRes} (h : LConOk P ⟨g, id, ds, fr, n, ob, t⟩) (s : Sub) (hs : s.noix = true) :
    LConOk P ⟨g, id, ds, fr.map fun p => (p.1, p.2.sub s), n, ob.map fun p => (p.1, p.2.sub s), T.sub s t⟩ := by
  have hsn := Sub.noix_ok hs
  obtain ⟨nt, a, ha, hd, h⟩ := h
  refine ⟨nt, a, ha, hd, fun ρ r hp => ?_⟩
  obtain ⟨r', h1, rfl⟩ := T.sub_pick hsn hp
  obtain ⟨h2, h3⟩ := h (ρ.sub s) r' h1
  refine ⟨h2, fun hok => ?_⟩
  obtain ⟨k, hT⟩ := h3 fun b hb => by
    rw [← B.sub_den hsn]; exact hok _ (List.mem_map.2 ⟨b, hb, rfl⟩)
  have hT := hT.sub hsn
  rw [frOf_sub, obOf_sub, frOf_sub, obOf_sub] at hT
  exact ⟨k, hT⟩
theorem LConOk.alt {P : Program} {g : FuncId} {id : Nat} {ds : List Nat} {fr : List (Nat × V)} {n : Nat} {ob : List (Nat × Ob)} {t t' : T LRes} (h : LConOk P ⟨g, id, ds, fr, n, ob, t⟩) (hn : allN n t' = true)
    (he : ∀ ρ r', t'.pick ρ = some r' → okOk ρ r'.ok → ∃ r, t.pick ρ = some r ∧ okOk ρ r.ok ∧ LRes.imp ρ r r') : LConOk P ⟨g, id, ds, fr, n, ob, t'⟩ := by
  obtain ⟨nt, a, ha, hd, h⟩ := h
  refine ⟨nt, a, ha, hd, fun ρ r' hp => ⟨allN_ok hn hp, fun hok => ?_⟩⟩
  obtain ⟨r, h1, h2, h3⟩ := he ρ r' hp hok
  obtain ⟨k, hT⟩ := (h ρ r h1).2 h2
  refine ⟨k, fun β a w Q hS hF hQ => ?_⟩
  rw [← h3.o] at hQ
  exact hT β a w Q hS hF fun β' a' w' hS' hF' st kp => hQ β' a' w' (by rw [← h3.n]; exact hS'.imp h3.ob) (hF'.imp hS'.env h3.fr) ⟨st.le, st.os, st.tape, st.output, st.size, st.fr, fun b hb => st.own b (hb.imp h3.ob), st.fzn, st.kvn⟩ kp
/-- a loop whose head is there at its beginning, for these letters. -/
theorem LConOk.ofS {P : Program} {g id : Nat} {ds : List Nat} {H : LHead} {I : Env → Prop} {res : T LRes} (h : HeadOk P g id H I res) (p0 : List Nat) (s : Sub) (hs : s.noix = true) (hds : dsOk P g id ds = true) (hn : allN H.n0 res = true) (hok : H.ok0 p0 = true) (hI : ∀ ρ r, (T.sub s res).pick ρ = some r → okOk ρ r.ok → I (ρ.sub s)) :
    LConOk P ⟨g, id, ds, (H.at p0).map fun p => (p.1, p.2.sub s), H.n0, (H.obs p0).map fun p => (p.1, p.2.sub s), T.sub s res⟩ := by
  have hsn := Sub.noix_ok hs
  unfold dsOk at hds
  split at hds
  · rename_i nt a ha
    refine ⟨nt, a, ha, fun t ht => ?_, fun ρ r hp => ?_⟩
    · exact List.all_eq_true.1 hds t (by simpa using ht)
    · have hp0 := hp
      obtain ⟨r', h1, rfl⟩ := T.sub_pick hsn hp
      refine ⟨allN_ok (r := r') hn h1, fun hr => ?_⟩
      obtain ⟨k, hk⟩ := h nt a ha (ρ.sub s) r' (hI ρ _ hp0 hr) h1
      have hk2 : TR P (ρ.sub s) H.n0 nt a k (fmOf (frOf (H.at p0))) H.n0 (obOf (H.obs p0)).get r'.o (fmOf (frOf r'.fr)) r'.n (obOf r'.ob).get := by
        refine hk.ren (π := H.π0 p0) ?_
        simp only [LHead.ok0, Bool.and_eq_true, List.all_eq_true] at hok
        obtain ⟨⟨⟨o1, o2⟩, o3⟩, o4⟩ := hok
        refine ⟨fun id hid => ?_, Nat.le_add_right _ _, fun t => ⟨?_, ?_⟩, fun id o2' h2 => ?_, fun id id' o o' h1 h2 e => ?_⟩
        · have hid : id < H.n0 := hid
          unfold LHead.π0; rw [if_pos (by simp [Nat.blt]; omega)]
        · show V.imp _ (fmOf (frOf (H.fr.map fun p => (p.1, p.2.ren (H.π0 p0)))) t) _
          rw [frOf_map (f := V.ren (H.π0 p0)) rfl]; exact V.imp.refl _ _
        · unfold fmOf
          cases hg : (frOf H.fr).get t with
          | none => rfl
          | some v => exact o1 _ (frOf_get _ _ _ hg)
        · have hm := obOf_get _ _ _ h2
          have hb := o2 _ hm
          refine ⟨Nat.le_of_ble_eq_true hb.1, hb.2, ⟨o2'.row.ren (H.π0 p0), o2'.rw, o2'.e⟩, ?_, rfl, rfl, Row.imp.refl _ _⟩
          have := obOf_last (l := H.obs p0) (by unfold LHead.obs; rw [List.map_map]; exact o3) (p := (H.π0 p0 id, ⟨o2'.row.ren (H.π0 p0), o2'.rw, o2'.e⟩)) (List.mem_map.2 ⟨(id, o2'), hm, rfl⟩)
          exact this
        · have h1 := obOf_get _ _ _ h1
          have h2 := obOf_get _ _ _ h2
          have := apartN_ok (fun p : Nat × Ob => H.π0 p0 p.1) o3 (id, o) h1 (id', o') h2 e
          exact congrArg (·.1) this
      have hk3 := hk2.sub hsn
      rw [frOf_sub, obOf_sub, frOf_sub, obOf_sub] at hk3
      exact ⟨k, hk3⟩
  · cases hds
end Go.Proofs.YtmckhoaekbeijaaGreat.E
/- Loops that append, other objects standing by. Plain Lean over the kit's model; no program. -/
namespace Go.Proofs.YtmckhoaekbeijaaGreat.E
open Go Go.RowKit
set_option linter.unusedVariables false
def subFr (s : Sub) (l : List (Nat × V)) : List (Nat × V) := l.map fun p => (p.1, p.2.sub s)
def subOb (s : Sub) (l : List (Nat × Ob)) : List (Nat × Ob) := l.map fun p => (p.1, p.2.sub s)
theorem ImpFr.refl (ρ : Env) : ∀ l : List (Nat × V), ImpFr ρ l l
  | [] => trivial
  | p :: l => ⟨rfl, V.imp.refl _ _, ImpFr.refl ρ l⟩
theorem ImpOb.refl (ρ : Env) : ∀ l : List (Nat × Ob), ImpOb ρ l l
  | [] => trivial
  | p :: l => ⟨⟨rfl, rfl, rfl⟩, Row.imp.refl _ _, ImpOb.refl ρ l⟩
theorem ImpFr.app {ρ : Env} : ∀ {a b c d : List (Nat × V)}, ImpFr ρ a b → ImpFr ρ c d → ImpFr ρ (a ++ c) (b ++ d)
  | [], [], _, _, _, h => h
  | _ :: _, _ :: _, _, _, ⟨h1, h2, h3⟩, h => ⟨h1, h2, ImpFr.app h3 h⟩
  | [], _ :: _, _, _, h, _ => h.elim
  | _ :: _, [], _, _, h, _ => h.elim
theorem ImpOb.app {ρ : Env} : ∀ {a b c d : List (Nat × Ob)}, ImpOb ρ a b → ImpOb ρ c d → ImpOb ρ (a ++ c) (b ++ d)
  | [], [], _, _, _, h => h
  | _ :: _, _ :: _, _, _, ⟨h1, h2, h3⟩, h => ⟨h1, h2, ImpOb.app h3 h⟩
  | [], _ :: _, _, _, h, _ => h.elim
  | _ :: _, [], _, _, h, _ => h.elim
theorem HeadOk.flatX {P : Program} (hm : P.follows .mixedOrders = true) {cf : Cf} (hcf : CfOk P cf) {fuel depth g id : Nat} {H : LHead} {osl oob : List Nat} {slot n0 n1 x i b : Nat} {k : IntKind} {e : TypeId} {N : E} {s : Sub} {oks : List B} {fr2 : List (Nat × V)} {ob2 : List (Nat × Ob)}
    (hr : roundH P cf fuel depth g id H [] osl oob = .br (.lt (.var i) N) (.leaf (.go s oks)) (.leaf (.out ⟨.exit x, rowFr slot n0 1 (.var b) ++ fr2, n1, rowOb n0 k e (.var b) ++ ob2, []⟩)))
    (h2 : subFr s fr2 = fr2) (h3 : subOb s ob2 = ob2)
    (I : Env → Prop) (G : L) (okr : List B) (hN : ∀ ρ, I ρ → 0 ≤ ρ.e i ∧ ρ.e i ≤ N.den ρ)
    (go : ∀ ρ, I ρ → ρ.e i < N.den ρ → okOk ρ oks ∧ (s.nix → I (ρ.sub s) ∧ (ρ.sub s).e i = ρ.e i + 1 ∧ N.den (ρ.sub s) = N.den ρ ∧ (ρ.sub s).l b ++ G.den (ρ.sub s) = ρ.l b ++ G.den ρ))
    (stop : ∀ ρ, I ρ → ρ.e i = N.den ρ → G.den ρ = []) : HeadOk P g id H I (.leaf ⟨.exit x, rowFr slot n0 1 (.cat (.var b) G) ++ fr2, n1, rowOb n0 k e (.cat (.var b) G) ++ ob2, okr⟩) := by
  refine HeadOk.of hm hcf hr I (fun ρ => (N.den ρ - ρ.e i).toNat) _ (fun ρ _ x hx => by cases hx) fun ρ r hI hp => ?_
  cases hp
  obtain ⟨h1, h1'⟩ := hN ρ hI
  simp only [T.pick, B.den]
  cases hc : ltb ((E.var i).den ρ) (N.den ρ) with
  | true =>
    have hlt : ρ.e i < N.den ρ := ltb_ok hc
    obtain ⟨g1, g2⟩ := go ρ hI hlt
    refine ⟨_, rfl, g1, fun hs => ?_⟩
    obtain ⟨k1, k2, k3, k4⟩ := g2 hs
    refine ⟨k1, by rw [k2, k3]; omega, _, rfl, ?_⟩
    have hl : ((L.cat (.var b) G).sub' s).den ρ = (L.cat (.var b) G).den ρ := by rw [L.sub_den hs]; exact k4
    unfold LRes.subst
    simp only [List.map_append]
    have e2 : fr2.map (fun p => (p.1, p.2.sub s)) = fr2 := h2
    have e3 : ob2.map (fun p => (p.1, p.2.sub s)) = ob2 := h3
    rw [e2, e3]
    refine LRes.mk_imp (ImpFr.app ⟨rfl, ?_, trivial⟩ (ImpFr.refl _ _)) (ImpOb.app ⟨⟨rfl, rfl, rfl⟩, ?_, trivial⟩ (ImpOb.refl _ _))
    · simp only [V.sub, E.sub]
      exact V.imp.sl rfl (by rw [mkLen_den, hl]; rfl)
    · simp only [Ob.sub, Row.sub]
      exact Row.imp.ints hl
  | false =>
    have hge : N.den ρ ≤ ρ.e i := ltb_no hc
    have h : (L.var b).den ρ = (L.cat (.var b) G).den ρ := by
      show ρ.l b = ρ.l b ++ G.den ρ
      rw [stop ρ hI (by omega)]; simp
    refine ⟨_, rfl, fun b hb => (by cases hb), ?_, by simp⟩
    exact LRes.mk_imp (ImpFr.app ⟨rfl, V.imp.sl rfl (by simp only [E.den, h]), trivial⟩ (ImpFr.refl _ _)) (ImpOb.app ⟨⟨rfl, rfl, rfl⟩, Row.imp.ints h, trivial⟩ (ImpOb.refl _ _))
def appResX (slot n0 n1 x b : Nat) (k : IntKind) (e : TypeId) (G : L) (okr : List B) (fr2 : List (Nat × V)) (ob2 : List (Nat × Ob)) : T LRes := .leaf ⟨.exit x, rowFr slot n0 1 (.cat (.var b) G) ++ fr2, n1, rowOb n0 k e (.cat (.var b) G) ++ ob2, okr⟩
theorem HeadOk.appX {P : Program} (hm : P.follows .mixedOrders = true) {cf : Cf} (hcf : CfOk P cf) {fuel depth g id : Nat} {H : LHead} {osl oob : List Nat} {slot n0 n1 x i b : Nat} {k : IntKind} {e : TypeId} {N : E} {s : Sub} {oks : List B} {fr2 : List (Nat × V)} {ob2 : List (Nat × Ob)}
    (hr : roundH P cf fuel depth g id H [] osl oob = .br (.lt (.var i) N) (.leaf (.go s oks)) (.leaf (.out ⟨.exit x, rowFr slot n0 1 (.var b) ++ fr2, n1, rowOb n0 k e (.var b) ++ ob2, []⟩)))
    (h2 : subFr s fr2 = fr2) (h3 : subOb s ob2 = ob2)
    (G : L) (hi : ∀ ρ : Env, (ρ.sub s).e i = binI .add .i64 (ρ.e i) 1)
    (go : ∀ ρ : Env, 0 ≤ ρ.e i → ρ.e i < N.den ρ → (ρ.sub s).e i = ρ.e i + 1 → N.den (ρ.sub s) = N.den ρ ∧ ∃ X, (ρ.sub s).l b = ρ.l b ++ X ∧ G.den ρ = X ++ G.den (ρ.sub s))
    (hok : ∀ ρ : Env, appI i b N G ρ → ρ.e i < N.den ρ → (ρ.sub s).e i = ρ.e i + 1 → okOk ρ oks)
    (stop : ∀ ρ : Env, ρ.e i = N.den ρ → G.den ρ = []) : HeadOk P g id H (appI i b N G) (appResX slot n0 n1 x b k e G (appOk i b N G) fr2 ob2) := by
  refine HeadOk.flatX hm hcf hr h2 h3 (appI i b N G) G (appOk i b N G) (fun ρ hI => ⟨hI.1, hI.2.1⟩) (fun ρ hI hlt => ?_) (fun ρ hI he => stop ρ he)
  have e1 : (ρ.sub s).e i = ρ.e i + 1 := by rw [hi]; exact add1 hI.1 hlt (by have := hI.2.2.1; omega)
  refine ⟨hok ρ hI hlt e1, fun hs => ?_⟩
  obtain ⟨k2, X, k3, k4⟩ := go ρ hI.1 hlt e1
  have k5 : (ρ.sub s).l b ++ G.den (ρ.sub s) = ρ.l b ++ G.den ρ := by rw [k3, k4, List.append_assoc]
  refine ⟨⟨by rw [e1]; have := hI.1; omega, by rw [e1, k2]; omega, by rw [k2]; exact hI.2.2.1, ?_⟩, e1, k2, k5⟩
  have := congrArg List.length k5
  simp only [List.length_append] at this
  have h4 := hI.2.2.2
  omega
theorem appX_nil {i b slot n0 n1 x : Nat} {k : IntKind} {e : TypeId} {N : E} {G : L} {s : Sub} {fr2 : List (Nat × V)} {ob2 : List (Nat × Ob)} (hs : s.noix = true) (ρ : Env) (r : LRes) (hp : (T.sub s (appResX slot n0 n1 x b k e G (appOk i b N G) fr2 ob2)).pick ρ = some r) (hok : okOk ρ r.ok) : appI i b N G (ρ.sub s) := by
  cases hp
  refine appI_of fun b' hb => ?_
  rw [← B.sub_den (Sub.noix_ok hs)]
  exact hok _ (List.mem_map.2 ⟨b', hb, rfl⟩)
end Go.Proofs.YtmckhoaekbeijaaGreat.E
/- Truths that are many truths. Plain Lean over the kit's model; no program. -/
namespace Go.Proofs.YtmckhoaekbeijaaGreat.E
open Go Go.RowKit
set_option linter.unusedVariables false
def conjs : B → List B
  | .and a b => conjs a ++ conjs b
  | .lit true => []
  | b => [b]
theorem conjs_den (ρ : Env) : ∀ b : B, b.den ρ = (conjs b).all (B.den ρ)
  | .and a b => by simp [conjs, B.den, conjs_den ρ a, conjs_den ρ b]
  | .lit true => rfl
  | .lit false | .var _ | .lt .. | .eq .. | .leq .. | .seq .. | .not _ => by simp [conjs]
/-- the same truths, in any order. -/
def sameConj (a b : B) : Bool := amongB (conjs a) (conjs b) && amongB (conjs b) (conjs a)
theorem sameConj_ok {a b : B} (h : sameConj a b = true) (ρ : Env) : a.den ρ = b.den ρ := by
  simp only [sameConj, Bool.and_eq_true] at h
  rw [conjs_den ρ a, conjs_den ρ b, Bool.eq_iff_iff, List.all_eq_true, List.all_eq_true]
  exact ⟨fun k x hx => k x (amongB_ok h.1 x hx), fun k x hx => k x (amongB_ok h.2 x hx)⟩
/-- does it follow from what is given that it is not so? -/
def notBy (fs : List B) : B → Bool
  | .lt (.lit (.ofNat m)) (.cnt l) => Nat.ble 4611686018427387904 m && fs.any fun f => f.same (.lt (.cnt l) (.lit 4611686018427387904))
  | .lt (.lit (.ofNat m)) (.len l) => Nat.ble 1073741824 m && fs.any fun f => f.same (.lt (.len l) (.lit 1073741824))
  | b => fs.any fun f => f.same (.not b)
def okBy (fs : List B) (b : B) : Bool := (fs.any fun f => f.same b) || match b with
  | .not x => (conjs x).any (notBy fs)
  | .lt (.cnt l) (.lit (.ofNat m)) => Nat.ble 4611686018427387904 m && fs.any fun f => f.same (.lt (.cnt l) (.lit 4611686018427387904))
  | _ => false
theorem anySame {fs : List B} {b : B} {ρ : Env} (hf : okOk ρ fs) (h : (fs.any fun f => f.same b) = true) : b.den ρ = true := by
  obtain ⟨f, h1, h2⟩ := List.any_eq_true.1 h
  rw [← B.same_ok h2]; exact hf f h1
theorem notBy_ok {fs : List B} {b : B} {ρ : Env} (hf : okOk ρ fs) (h : notBy fs b = true) : b.den ρ = false := by
  unfold notBy at h
  split at h
  · rename_i m l
    simp only [Bool.and_eq_true] at h
    have h1 := Nat.le_of_ble_eq_true h.1
    have h2 : ((l.den ρ).length : Int) < 4611686018427387904 := ltb_ok (anySame hf h.2)
    exact ltF (by show (((l.den ρ).length : Nat) : Int) ≤ Int.ofNat m; simp only [Int.ofNat_eq_natCast]; omega)
  · rename_i m l
    simp only [Bool.and_eq_true] at h
    have h1 := Nat.le_of_ble_eq_true h.1
    have h2 : ((l.den ρ).length : Int) < 1073741824 := ltb_ok (anySame hf h.2)
    exact ltF (by show (((l.den ρ).length : Nat) : Int) ≤ Int.ofNat m; simp only [Int.ofNat_eq_natCast]; omega)
  · have := anySame hf h
    simpa [B.den] using this
theorem okBy_ok {fs : List B} {b : B} {ρ : Env} (hf : okOk ρ fs) (h : okBy fs b = true) : b.den ρ = true := by
  unfold okBy at h
  rcases (Bool.or_eq_true _ _).mp h with h | h
  · exact anySame hf h
  · split at h
    · rename_i x _hh
      obtain ⟨c, h1, h2⟩ := List.any_eq_true.1 h
      have : x.den ρ = false := by
        rw [conjs_den ρ x, Bool.eq_false_iff]
        intro hc
        have := List.all_eq_true.1 hc c h1
        rw [notBy_ok hf h2] at this; cases this
      show (!x.den ρ) = true
      rw [this]; rfl
    · rename_i l m _hh
      simp only [Bool.and_eq_true] at h
      have h1 := Nat.le_of_ble_eq_true h.1
      have h2 : ((l.den ρ).length : Int) < 4611686018427387904 := ltb_ok (anySame hf h.2)
      exact ltT (by show (((l.den ρ).length : Nat) : Int) < Int.ofNat m; simp only [Int.ofNat_eq_natCast]; omega)
    · cases h
/-- a function that gives one truth: the same truth in other words. -/
def boolChk (b : B) (fs : List B) : T (V × List B) → Bool
  | .leaf (.bool b', oks) => sameConj b' b && oks.all (okBy fs)
  | _ => false
theorem Con.bool {P : Program} {g : FuncId} {args : List V} {t : T (V × List B)} (h : ConOk P ⟨g, args, t⟩) (b : B) (fs : List B) (hc : boolChk b fs t = true) : ConOk P ⟨g, args, .leaf (.bool b, fs)⟩ := by
  refine Con.alt h fun ρ r' bs' hp hok => ?_
  cases hp
  unfold boolChk at hc
  split at hc
  · rename_i b' oks
    simp only [Bool.and_eq_true] at hc
    refine ⟨_, _, rfl, fun x hx => okBy_ok hok (List.all_eq_true.1 hc.2 x hx), fun β x e hr => ?_⟩
    have hr : F1 (.bool b') β.g x := hr
    have : F1 (.bool b) β.g x := by
      simp only [F1] at hr ⊢
      rw [hr, sameConj_ok hc.1]
    exact R0.toR (F1.up this)
  · cases hc
end Go.Proofs.YtmckhoaekbeijaaGreat.E
/- A law's arguments, opened by how they are read: what stands in their cells. Plain Lean over the kit's model; no program. -/
namespace Go.Proofs.YtmckhoaekbeijaaGreat.E
open Go Go.RowKit
set_option linter.unusedVariables false

/-- the kinds of cells. -/
inductive K0 where
  | int (k : IntKind)
  | ints (z : Nat) (k : IntKind)
inductive K1 where
  | int (k : IntKind)
  | bool
  | str
  | bytes (n : Nat)
  | sl (ks : List K0)
def K1.w : K1 → Nat
  | .bytes n => n
  | _ => 1
def widths : List K1 → Nat
  | [] => 0
  | k :: l => k.w + widths l

/-! ### by the type -/
def allInt (k : IntKind) : List K1 → Bool
  | [] => true
  | .int k' :: l => decide (k = k') && allInt k l
  | _ => false
def flatI : List K1 → Option (Nat × IntKind)
  | .int k :: l => if allInt k l then some (l.length + 1, k) else none
  | _ => none
def kinds0 : List K1 → Option (List K0)
  | [] => some []
  | .int k :: l => (kinds0 l).map (.int k :: ·)
  | .sl [.int k] :: l => (kinds0 l).map (.ints 1 k :: ·)
  | .sl (.int k :: ks) :: l => if ks.all (fun x => match x with | .int k' => decide (k = k') | _ => false) then (kinds0 l).map (.ints (ks.length + 1) k :: ·) else none
  | _ => none
def fieldsK (P : Program) (r : TypeId → Option (List K1)) : List Field → Nat → Option (List K1)
  | [], _ => some []
  | f :: fs, o => match r f.type with
    | some l => if Nat.beq f.offset o && Nat.beq (P.cellsOf f.type) (widths l) then (fieldsK P r fs (o + widths l)).map (l ++ ·) else none
    | none => none
def timesK (l : List K1) : Nat → List K1
  | 0 => []
  | n + 1 => l ++ timesK l n
def kindsT (P : Program) : Nat → TypeId → Option (List K1)
  | 0, _ => none
  | d + 1, t => match P.underlying t with
    | some (.int k) => some [.int k]
    | some .bool => some [.bool]
    | some .string => some [.str]
    | some (.struct fs) => match fieldsK P (kindsT P d) fs.toList 0 with
      | some l => if Nat.beq (P.cellsOf t) (widths l) then some l else none
      | none => none
    | some (.array n e) => match kindsT P d e with
      | some [.int .u8] => if Nat.beq (P.cellsOf t) n && Nat.beq (P.cellsOf e) 1 then some [.bytes n] else none
      | some l => if Nat.beq (P.cellsOf e) (widths l) && Nat.beq (P.cellsOf t) (widths (timesK l n)) then some (timesK l n) else none
      | none => none
    | some (.slice e) => match kindsT P d e with
      | some l => match kinds0 l with
        | some ks => if Nat.beq (P.cellsOf e) ks.length && Nat.blt 0 ks.length && Nat.blt 0 (P.bytesOf e) then some [.sl ks] else none
        | none => none
      | none => none
    | _ => none

/-! ### what stands there -/
def Al {α β : Type} (p : α → β → Prop) : List α → List β → Prop
  | [], [] => True
  | a :: as, b :: bs => p a b ∧ Al p as bs
  | _, _ => False
/-- a slice by its rows. -/
def RdS (w : World) (z : Nat) (p : List Value → Prop) (v : Value) : Prop := ∃ (a : Option Addr) (len cap : Nat) (rows : List (List Value)), v = .slice a len cap ∧ len ≤ cap ∧ cap ≤ reachBytes ∧ rows.length = len ∧ (∀ r ∈ rows, r.length = z ∧ p r) ∧
  ((len = 0 ∧ cap = 0) ∨ ∃ b d, a = some ⟨b, d, none⟩ ∧ (len = 0 ∨ ∃ cs e f, w.heap[b]? = some (.cells cs e f) ∧ (cs.toList.drop d).take (len * z) = rows.flatten))
def RdI (k : IntKind) (v : Value) : Prop := ∃ n, v = .int k n ∧ k.has n
def Rd0 (w : World) (q : K0) (v : Value) : Prop := match q with
  | .int k => RdI k v
  | .ints z k => RdS w z (fun r => ∀ x ∈ r, RdI k x) v
def Rd1 (w : World) (q : K1) (xs : List Value) : Prop := match q with
  | .int k => ∃ v, xs = [v] ∧ RdI k v
  | .bool => ∃ b, xs = [.bool b]
  | .str => ∃ s : ByteArray, xs = [.string s] ∧ s.size ≤ reachBytes
  | .bytes n => xs.length = n ∧ ∀ x ∈ xs, RdI .u8 x
  | .sl ks => ks ≠ [] ∧ ∃ v, xs = [v] ∧ RdS w ks.length (fun r => Al (Rd0 w) ks r) v
/-- cells, group by group. -/
def RdG (w : World) : List K1 → List Value → Prop
  | [], xs => xs = []
  | k :: l, xs => ∃ a b, xs = a ++ b ∧ a.length = k.w ∧ Rd1 w k a ∧ RdG w l b
theorem RdG.app {w : World} : ∀ {l m : List K1} {xs ys : List Value}, RdG w l xs → RdG w m ys → RdG w (l ++ m) (xs ++ ys)
  | [], m, xs, ys, h, h' => by have h : xs = [] := h; subst h; exact h'
  | k :: l, m, xs, ys, ⟨a, b, e, h1, h2, h3⟩, h' => ⟨a, b ++ ys, by rw [e, List.append_assoc], h1, h2, RdG.app h3 h'⟩
theorem RdG.len {w : World} : ∀ {l : List K1} {xs : List Value}, RdG w l xs → xs.length = widths l
  | [], xs, h => by have h : xs = [] := h; subst h; rfl
  | k :: l, xs, ⟨a, b, e, h1, h2, h3⟩ => by rw [e, List.length_append, h1, RdG.len h3]; rfl

section
variable {H : Type} {enc : TypeId × Value → H} {P : Program} {w : World}
theorem has_of_wf {k : IntKind} {n : Int} (h : (Lit.int k n).wf = true) : k.has n := by
  simp only [Lit.wf, Bool.and_eq_true, decide_eq_true_eq] at h; exact h
def light (l : List Nat) : Prop := ∀ n ∈ l, n ≤ reachBytes
theorem light.left {a b : List Nat} (h : light (a ++ b)) : light a := fun n hn => h n (List.mem_append_left _ hn)
theorem light.right {a b : List Nat} (h : light (a ++ b)) : light b := fun n hn => h n (List.mem_append_right _ hn)
theorem light_all {e : TypeId} : ∀ {ds : List (DataW H)}, light (DataW.weightsAll P e ds) → ∀ d ∈ ds, light (d.weights P e)
  | [], _, d, hd => by cases hd
  | x :: ds, h, d, hd => by
    unfold DataW.weightsAll at h
    rcases List.mem_cons.1 hd with rfl | hd
    · exact h.left
    · exact light_all h.right d hd
theorem RdG.allInt {k : IntKind} : ∀ {l : List K1} {xs : List Value}, E.allInt k l = true → RdG w l xs → xs.length = l.length ∧ ∀ x ∈ xs, RdI k x
  | [], xs, _, h => by have h : xs = [] := h; subst h; exact ⟨rfl, fun x hx => by cases hx⟩
  | q :: l, xs, hk, ⟨a, b, e, h1, h2, h3⟩ => by
    cases q with
    | int k' =>
      simp only [E.allInt, Bool.and_eq_true, decide_eq_true_eq] at hk
      obtain ⟨rfl, hk⟩ := hk
      obtain ⟨v, rfl, hv⟩ := h2
      obtain ⟨i1, i2⟩ := RdG.allInt hk h3
      subst e
      refine ⟨by simp [i1], fun x hx => ?_⟩
      simp only [List.cons_append, List.nil_append, List.mem_cons] at hx
      rcases hx with rfl | hx
      · exact hv
      · exact i2 x hx
    | _ => simp [E.allInt] at hk
theorem RdS.mono {z : Nat} {p q : List Value → Prop} {v : Value} (h : RdS w z p v) (hpq : ∀ r, r.length = z → p r → q r) : RdS w z q v := by
  obtain ⟨a, len, cap, rows, h1, h2, h3, h4, h5, h6⟩ := h
  exact ⟨a, len, cap, rows, h1, h2, h3, h4, fun r hr => ⟨(h5 r hr).1, hpq r (h5 r hr).1 (h5 r hr).2⟩, h6⟩
theorem Al.ints {k : IntKind} : ∀ {ks : List K0} {r : List Value}, (ks.all fun x => match x with | .int k' => decide (k = k') | _ => false) = true → Al (Rd0 w) ks r → ∀ x ∈ r, RdI k x
  | [], [], _, _, x, hx => by cases hx
  | [], _ :: _, _, h, _, _ => by cases h
  | q :: ks, [], _, h, x, hx => by cases hx
  | q :: ks, y :: r, ha, ⟨h1, h2⟩, x, hx => by
    simp only [List.all_cons, Bool.and_eq_true] at ha
    rcases List.mem_cons.1 hx with rfl | hx
    · cases q with
      | int k' =>
        have := ha.1
        simp only [decide_eq_true_eq] at this
        subst this; exact h1
      | ints z k' => simp at ha
    · exact Al.ints ha.2 h2 x hx
theorem kinds0_ok : ∀ {l : List K1} {ks : List K0} {xs : List Value}, kinds0 l = some ks → RdG w l xs → Al (Rd0 w) ks xs
  | [], ks, xs, h, hr => by
    have hr : xs = [] := hr
    subst hr
    simp only [kinds0, Option.some.injEq] at h
    subst h; trivial
  | .int k :: l, ks, xs, h, ⟨a, b, e, h1, h2, h3⟩ => by
    simp only [kinds0, Option.map_eq_some_iff] at h
    obtain ⟨ks', hk, rfl⟩ := h
    obtain ⟨v, rfl, hv⟩ := h2
    subst e
    exact ⟨hv, kinds0_ok hk h3⟩
  | .sl [.int k] :: l, ks, xs, h, ⟨a, b, e, h1, h2, h3⟩ => by
    simp only [kinds0, Option.map_eq_some_iff] at h
    obtain ⟨ks', hk, rfl⟩ := h
    obtain ⟨_, v, rfl, hv⟩ := h2
    subst e
    refine ⟨?_, kinds0_ok hk h3⟩
    exact RdS.mono hv fun r _ hr => Al.ints (ks := [.int k]) (by simp) hr
  | .sl (.int k :: q :: ks2) :: l, ks, xs, h, ⟨a, b, e, h1, h2, h3⟩ => by
    simp only [kinds0] at h
    split at h
    · rename_i ha
      simp only [Option.map_eq_some_iff] at h
      obtain ⟨ks', hk, rfl⟩ := h
      obtain ⟨_, v, rfl, hv⟩ := h2
      subst e
      refine ⟨?_, kinds0_ok hk h3⟩
      exact RdS.mono hv fun r _ hr => Al.ints (ks := .int k :: q :: ks2) (by simpa using ha) hr
    · cases h
  | .bool :: l, ks, xs, h, _ => by simp [kinds0] at h
  | .str :: l, ks, xs, h, _ => by simp [kinds0] at h
  | .bytes n :: l, ks, xs, h, _ => by simp [kinds0] at h
  | .sl [] :: l, ks, xs, h, _ => by simp [kinds0] at h
  | .sl (.ints z k :: ks2) :: l, ks, xs, h, _ => by simp [kinds0] at h

theorem cells_get {a : Addr} {n : Nat} {cs : List Value} (h : w.cells? 0 a n = some cs) : cs.length = n ∧ ∀ i, i < n → w.cell? (a.add i) = cs[i]? := by
  unfold World.cells? at h
  simp only [Nat.zero_le, if_true] at h
  exact ⟨by simpa using mapM_some_length h, fun i hi => mapM_some_get h i i (by simp [hi])⟩
theorem cell_block {a : Addr} {i : Nat} {v : Value} (h : w.cell? (a.add i) = some v) : (i = 0 → a.spot = none) ∧ ∃ cs e f, w.heap[a.block]? = some (.cells cs e f) ∧ cs[a.off + i]? = some v := by
  unfold World.cell? at h
  have hb : (a.add i).block = a.block := by unfold Addr.add; split <;> rfl
  have ho : (a.add i).off = a.off + i := by unfold Addr.add; split <;> simp_all
  rw [hb, ho] at h
  split at h
  · rename_i c e f hh
    split at h
    · cases h
    · rename_i hs
      refine ⟨fun hi => ?_, c, e, f, hh, h⟩
      subst hi
      have : (a.add 0).spot = a.spot := rfl
      rw [this] at hs
      simpa using hs
  · cases h
/-- rows, one behind the other, are what stands there. -/
theorem flat_rows {z : Nat} {cs : List Value} {d : Nat} : ∀ (n : Nat) (row : Nat → List Value), (∀ i, i < n → (row i).length = z ∧ ∀ j, j < z → cs[d + (i * z + j)]? = (row i)[j]?) → (cs.drop d).take (n * z) = ((List.range n).map row).flatten
  | 0, _, _ => by simp
  | n + 1, row, h => by
    rw [List.range_succ, List.map_append, List.flatten_append, ← flat_rows n row fun i hi => h i (by omega), Nat.succ_mul, List.take_add]
    congr 1
    obtain ⟨h1, h2⟩ := h n (by omega)
    simp only [List.map_cons, List.map_nil, List.flatten_cons, List.flatten_nil, List.append_nil]
    apply List.ext_getElem?
    intro j
    rw [List.getElem?_take]
    split
    · rename_i hj
      rw [List.drop_drop, List.getElem?_drop, ← h2 j hj, Nat.add_assoc]
    · rename_i hj
      rw [List.getElem?_eq_none (by omega)]
theorem trod_slice_rd {t e : TypeId} {z m : Nat} {cs : List Value} {x : DataW H × List MemPlace} {p : List Value → Prop} (ht : P.underlying t = some (.slice e)) (hz : P.cellsOf e = z) (hz0 : 0 < z) (hby : 0 < P.bytesOf e)
    (h : DataW.trod enc P w 0 (fun _ => true) true m t cs = some x) (hl : light (x.1.weights P t)) (hp : ∀ n r y, DataW.trod enc P w 0 (fun _ => true) true n e r = some y → light (y.1.weights P e) → r.length = z → p r) : ∃ v, cs = [v] ∧ RdS w z p v := by
  rcases DataW.trod_slice ht h with ⟨rfl, _⟩ | ⟨a, len, cap, elems, rest, n, _, rfl, rfl, _, hlc, _, hel, helem, hsp, _⟩
  · exact ⟨_, rfl, none, 0, 0, [], rfl, Nat.le_refl _, Nat.zero_le _, rfl, fun r hr => by (cases hr), .inl ⟨rfl, rfl⟩⟩
  · obtain ⟨hrl, hrest⟩ := hsp rfl
    have hw : light ((elems.map (·.1) ++ rest.map (·.1)).length * P.bytesOf e :: (DataW.weightsAll P e (elems.map (·.1)) ++ DataW.weightsAll P e (rest.map (·.1)))) := by
      have : (DataW.slice (elems.map (·.1)) (rest.map (·.1))).weights P t = (elems.map (·.1) ++ rest.map (·.1)).length * P.bytesOf e :: (DataW.weightsAll P e (elems.map (·.1)) ++ DataW.weightsAll P e (rest.map (·.1))) := by
        rw [DataW.weights, ht]; simp
      rw [← this]; exact hl
    have hcap : cap ≤ reachBytes := by
      have h1 := hw _ (List.mem_cons_self ..)
      simp only [List.length_append, List.length_map, hel, hrl] at h1
      have h2 : cap ≤ (len + (cap - len)) * P.bytesOf e := by
        rw [show len + (cap - len) = cap by omega]; exact Nat.le_mul_of_pos_right _ hby
      omega
    have hall : light (DataW.weightsAll P e (elems.map (·.1))) := fun k hk => hw k (List.mem_cons_of_mem _ (List.mem_append_left _ hk))
    let row := fun i => (w.cells? 0 (a.add (i * z)) z).getD []
    have hrow : ∀ i, i < len → w.cells? 0 (a.add (i * z)) z = some (row i) ∧ (row i).length = z ∧ p (row i) := by
      intro i hi
      have h1 := helem i hi
      rw [hz] at h1
      have h2 : elems[i]? = some elems[i] := by simp [hel, hi]
      rw [h2] at h1
      obtain ⟨cs', hc, ht'⟩ := Option.bind_eq_some_iff.1 h1
      have hrw : row i = cs' := by show (w.cells? 0 (a.add (i * z)) z).getD [] = cs'; rw [hc]; rfl
      have hlen := (cells_get hc).1
      exact ⟨by rw [hrw, hc], by rw [hrw]; exact hlen, by rw [hrw]; exact hp _ _ _ ht' (light_all hall _ (List.mem_map.2 ⟨_, List.getElem_mem (by omega), rfl⟩)) hlen⟩
    have hspot : 0 < cap → a.spot = none ∧ ∃ cs e f, w.heap[a.block]? = some (.cells cs e f) := by
      intro hc
      have first : ∃ v, w.cell? (a.add 0) = some v := by
        by_cases h0 : 0 < len
        · obtain ⟨c1, c2, _⟩ := hrow 0 h0
          have := (cells_get c1).2 0 hz0
          rw [Nat.zero_mul] at this
          have h3 : (row 0)[0]? = some ((row 0)[0]'(by omega)) := by simp
          exact ⟨_, (by rw [h3] at this; simpa [Addr.add] using this)⟩
        · have hl0 : len = 0 := by omega
          have h1 := hrest 0 (by omega)
          rw [hz, hl0] at h1
          have h2 : rest[0]? = some (rest[0]'(by omega)) := by simp
          rw [h2] at h1
          obtain ⟨cs', hc', _⟩ := Option.bind_eq_some_iff.1 h1
          have h4 := cells_get hc'
          have := h4.2 0 hz0
          have h3 : cs'[0]? = some (cs'[0]'(by omega)) := by simp
          exact ⟨_, (by rw [h3] at this; simpa [Addr.add] using this)⟩
      obtain ⟨v, hv⟩ := first
      obtain ⟨s1, c, e', f, s2, _⟩ := cell_block hv
      exact ⟨s1 rfl, c, e', f, s2⟩
    refine ⟨_, rfl, some a, len, cap, (List.range len).map row, rfl, hlc, hcap, by simp, fun r hr => ?_, ?_⟩
    · obtain ⟨i, hi, rfl⟩ := List.mem_map.1 hr
      have hi : i < len := by simpa using hi
      exact (hrow i hi).2
    · by_cases hc : cap = 0
      · exact .inl ⟨by omega, hc⟩
      · right
        obtain ⟨hs, c, e', f, hb⟩ := hspot (by omega)
        obtain ⟨b, d, s⟩ := a
        simp only at hs hb
        subst hs
        refine ⟨b, d, rfl, ?_⟩
        by_cases hl0 : len = 0
        · exact .inl hl0
        · refine .inr ⟨c, e', f, hb, ?_⟩
          refine flat_rows len row fun i hi => ⟨(hrow i hi).2.1, fun j hj => ?_⟩
          have hget := (cells_get (hrow i hi).1).2 j hj
          have h3 : (row i)[j]? = some ((row i)[j]'(by rw [(hrow i hi).2.1]; exact hj)) := by simp
          rw [h3] at hget ⊢
          obtain ⟨_, c2, e2, f2, q1, q2⟩ := cell_block hget
          have hab : (Addr.add ⟨b, d, none⟩ (i * z)).block = b := by unfold Addr.add; split <;> rfl
          have hao : (Addr.add ⟨b, d, none⟩ (i * z)).off = d + i * z := by unfold Addr.add; split <;> simp_all
          rw [hab, hb] at q1
          cases q1
          rw [hao] at q2
          rw [← Nat.add_assoc]
          simpa using q2
end
end Go.Proofs.YtmckhoaekbeijaaGreat.E
/- A law's arguments, opened by how they are read: by the type; letters for what is read. Plain Lean over the kit's model; no program. -/
namespace Go.Proofs.YtmckhoaekbeijaaGreat.E
open Go Go.RowKit
set_option linter.unusedVariables false
section
variable {H : Type} {enc : TypeId × Value → H} {P : Program} {w : World}
theorem light_each : ∀ {ts : List TypeId} {ds : List (DataW H)}, light (DataW.weightsEach P ts ds) → ∀ (i : Nat) (t : TypeId) (d : DataW H), ts[i]? = some t → ds[i]? = some d → light (d.weights P t)
  | [], _, _, i, t, d, h, _ => by cases h
  | _ :: _, [], _, i, t, d, _, h => by cases h
  | t0 :: ts, d0 :: ds, h, 0, t, d, h1, h2 => by
    simp only [List.getElem?_cons_zero, Option.some.injEq] at h1 h2
    subst h1; subst h2
    unfold DataW.weightsEach at h
    exact h.left
  | t0 :: ts, d0 :: ds, h, i + 1, t, d, h1, h2 => by
    unfold DataW.weightsEach at h
    exact light_each h.right i t d (by simpa using h1) (by simpa using h2)
theorem widths_app : ∀ a b : List K1, widths (a ++ b) = widths a + widths b
  | [], b => by simp [widths]
  | k :: a, b => by simp only [List.cons_append, widths, widths_app a b]; omega
theorem fields_rd {r : TypeId → Option (List K1)} {n : Nat} {cs : List Value} {xs : List (DataW H × List MemPlace)} : ∀ (fs : List Field) (i o : Nat) (l : List K1), fieldsK P r fs o = some l →
    (∀ (j : Nat) (f : Field), fs[j]? = some f → ∃ y, DataW.trod enc P w 0 (fun _ => true) true n f.type ((cs.drop f.offset).take (P.cellsOf f.type)) = some y ∧ light (y.1.weights P f.type)) →
    (∀ t l cs' y, r t = some l → DataW.trod enc P w 0 (fun _ => true) true n t cs' = some y → light (y.1.weights P t) → RdG w l cs') →
    RdG w l ((cs.drop o).take (widths l))
  | [], i, o, l, h, _, _ => by
    simp only [fieldsK, Option.some.injEq] at h
    subst h; show List.take 0 _ = []; simp
  | f :: fs, i, o, l, h, hx, hr => by
    unfold fieldsK at h
    split at h
    · rename_i l1 hf
      split at h
      · rename_i hc
        simp only [Bool.and_eq_true] at hc
        have ho := Nat.eq_of_beq_eq_true hc.1
        have hw := Nat.eq_of_beq_eq_true hc.2
        simp only [Option.map_eq_some_iff] at h
        obtain ⟨l2, h2, rfl⟩ := h
        obtain ⟨y, hy, hyl⟩ := hx 0 f rfl
        have a1 := hr _ _ _ _ hf hy hyl
        rw [ho, hw] at a1
        have a2 := fields_rd (cs := cs) (xs := xs) fs (i + 1) (o + widths l1) l2 h2 (fun j f' hj => hx (j + 1) f' (by simpa using hj)) hr
        have hwid : widths (l1 ++ l2) = widths l1 + widths l2 := widths_app l1 l2
        rw [hwid, List.take_add, List.drop_drop]
        exact a1.app a2
      · cases h
    · cases h
theorem times_rd {l : List K1} {cs : List Value} {z : Nat} (hz : z = widths l) : ∀ (n o : Nat), (∀ i, i < n → RdG w l ((cs.drop (o + i * z)).take z)) → RdG w (timesK l n) ((cs.drop o).take (n * z))
  | 0, o, _ => by show List.take _ _ = []; simp
  | n + 1, o, h => by
    have h0 := h 0 (by omega)
    rw [Nat.zero_mul, Nat.add_zero] at h0
    have h1 := times_rd hz n (o + z) fun i hi => by
      have := h (i + 1) (by omega)
      rw [Nat.succ_mul] at this
      rw [show o + z + i * z = o + (i * z + z) by omega]; exact this
    rw [show (n + 1) * z = z + n * z by rw [Nat.succ_mul]; omega, List.take_add, List.drop_drop]
    exact h0.app h1
theorem RdG.one {k : K1} {xs : List Value} (h : Rd1 w k xs) (hw : xs.length = k.w) : RdG w [k] xs := ⟨xs, [], by simp, hw, h, rfl⟩
theorem trod_rd : ∀ (d : Nat) (t : TypeId) (l : List K1) (m : Nat) (cs : List Value) (x : DataW H × List MemPlace), kindsT P d t = some l → DataW.trod enc P w 0 (fun _ => true) true m t cs = some x → light (x.1.weights P t) → RdG w l cs
  | 0, _, _, _, _, _, h, _, _ => by cases h
  | d + 1, t, l, m, cs, x, h, ht, hl => by
    have ih := trod_rd d
    unfold kindsT at h
    split at h
    · rename_i k hu
      cases h
      obtain ⟨n, rfl, _, hw⟩ := DataW.trod_int hu ht
      exact RdG.one ⟨_, rfl, n, rfl, has_of_wf hw⟩ rfl
    · rename_i hu
      cases h
      obtain ⟨b, rfl, _⟩ := DataW.trod_bool hu ht
      exact RdG.one ⟨b, rfl⟩ rfl
    · rename_i hu
      cases h
      obtain ⟨s, rfl, rfl, _⟩ := DataW.trod_string hu ht
      refine RdG.one ⟨s, rfl, ?_⟩ rfl
      have := hl s.data.toList.length (by simp [DataW.weights])
      simpa using this
    · rename_i fs hu
      split at h
      · rename_i l' hf
        split at h
        · rename_i hw
          obtain rfl := Option.some.inj h
          obtain ⟨xs, n, rfl, rfl, hlen, hxl, hx⟩ := DataW.trod_struct hu ht
          have hwt : light (DataW.weightsEach P (fs.toList.map (·.type)) (xs.map (·.1))) := by
            have : (DataW.agg (xs.map (·.1))).weights P t = DataW.weightsEach P (fs.toList.map (·.type)) (xs.map (·.1)) := by rw [DataW.weights, hu]
            rw [← this]; exact hl
          have := fields_rd (enc := enc) (cs := cs) (n := n) (xs := xs) fs.toList 0 0 _ hf (fun j f hj => by
            have h1 := hx j f (by simpa using hj)
            have hj' : j < xs.length := by rw [hxl]; have := (List.getElem?_eq_some_iff.1 hj).1; simpa using this
            refine ⟨xs[j], by rw [h1]; simp [hj'], light_each hwt j _ _ (by simp [hj]) (by simp [hj'])⟩) fun t' l'' cs' y hk hy hyl => ih t' l'' n cs' y hk hy hyl
          rw [List.drop_zero, List.take_of_length_le (by rw [hlen, Nat.eq_of_beq_eq_true hw]; exact Nat.le_refl _)] at this
          exact this
        · cases h
      · cases h
    · rename_i n e hu
      obtain ⟨xs, m', rfl, rfl, hlen, hxl, hx⟩ := DataW.trod_array hu ht
      have hwt : light (DataW.weightsAll P e (xs.map (·.1))) := by
        have : (DataW.agg (xs.map (·.1))).weights P t = DataW.weightsAll P e (xs.map (·.1)) := by rw [DataW.weights, hu]
        rw [← this]; exact hl
      have each : ∀ l', kindsT P d e = some l' → ∀ i, i < n → RdG w l' ((cs.drop (i * P.cellsOf e)).take (P.cellsOf e)) := fun l' hk i hi => by
        have h1 := hx i hi
        exact ih _ _ _ _ xs[i] hk (by rw [h1]; simp [hxl, hi]) (light_all hwt _ (List.mem_map.2 ⟨_, List.getElem_mem _, rfl⟩))
      split at h
      · rename_i hk
        split at h
        · rename_i hc
          cases h
          simp only [Bool.and_eq_true] at hc
          have hc1 := Nat.eq_of_beq_eq_true hc.1
          have hc2 := Nat.eq_of_beq_eq_true hc.2
          refine RdG.one ⟨by rw [hlen, hc1], fun v hv => ?_⟩ (by rw [hlen, hc1]; rfl)
          obtain ⟨i, hi, rfl⟩ := List.getElem_of_mem hv
          have h1 := each _ hk i (by omega)
          rw [hc2, Nat.mul_one] at h1
          obtain ⟨a, b, e1, _, ⟨u, rfl, hu'⟩, e2⟩ := h1
          have e2 : b = [] := e2
          subst e2
          have : (List.drop i cs).take 1 = [cs[i]] := by
            rw [List.drop_eq_getElem_cons hi]; rfl
          rw [this] at e1
          cases e1; exact hu'
        · cases h
      · rename_i l' _ hk
        split at h
        · rename_i hc
          cases h
          simp only [Bool.and_eq_true] at hc
          have hc1 := Nat.eq_of_beq_eq_true hc.1
          have hc2 := Nat.eq_of_beq_eq_true hc.2
          have := times_rd (w := w) (cs := cs) hc1 n 0 fun i hi => by rw [Nat.zero_add]; exact each _ hk i hi
          have hwt' : ∀ n, widths (timesK l' n) = n * widths l' := by
            intro n
            induction n with
            | zero => simp [timesK, widths]
            | succ n ih =>
              rw [timesK, widths_app, ih, Nat.succ_mul]; omega
          rw [List.drop_zero, List.take_of_length_le (by rw [hlen, hc2, hwt', hc1]; exact Nat.le_refl _)] at this
          exact this
        · cases h
      · cases h
    · rename_i e hu
      split at h
      · rename_i l' hk
        split at h
        · rename_i ks hks
          split at h
          · rename_i hc
            cases h
            simp only [Bool.and_eq_true] at hc
            have hc1 := Nat.eq_of_beq_eq_true hc.1.1
            obtain ⟨v, rfl, hv⟩ := trod_slice_rd (p := fun r => Al (Rd0 w) ks r) hu hc1 (by have h1 := Nat.le_of_ble_eq_true hc.1.2; omega) (by have h1 := Nat.le_of_ble_eq_true hc.2; omega) ht hl fun n r y hy hyl _ => kinds0_ok hks (ih _ _ _ _ _ hk hy hyl)
            exact RdG.one ⟨fun hn => by have h1 := Nat.le_of_ble_eq_true hc.1.2; rw [hn] at h1; simp at h1, v, rfl, hv⟩ rfl
          · cases h
        · cases h
      · cases h
    · cases h
end
end Go.Proofs.YtmckhoaekbeijaaGreat.E
/- A law's arguments, opened: letters. Plain Lean over the kit's model; no program. -/
namespace Go.Proofs.YtmckhoaekbeijaaGreat.E
open Go Go.RowKit
set_option linter.unusedVariables false
def ivalOf : Value → Int
  | .int _ n => n
  | _ => 0
def bvalOf : Value → Bool
  | .bool b => b
  | _ => false
def svalOf : Value → List Int
  | .string s => s.data.toList.map fun b => (b.toNat : Int)
  | _ => []
def flatOf (w : World) (z : Nat) : Value → List Int
  | .slice (some a) len _ => match w.heap[a.block]? with
    | some (.cells cs _ _) => ((cs.toList.drop a.off).take (len * z)).map ivalOf
    | _ => []
  | _ => []
def fzOf (w : World) : Nat → Option (Array Value) := fun b => match w.heap[b]? with | some (.cells cur _ _) => some cur | _ => none
theorem RdI.ival {k : IntKind} {v : Value} (h : RdI k v) : v = .int k (ivalOf v) ∧ k.has (ivalOf v) := by
  obtain ⟨n, rfl, h⟩ := h; exact ⟨rfl, h⟩
theorem ints_ival {k : IntKind} {r : List Value} (h : ∀ x ∈ r, RdI k x) : r = (r.map ivalOf).map (.int k) := by
  rw [List.map_map]
  conv => lhs; rw [← List.map_id r]
  exact List.map_congr_left fun x hx => by
    obtain ⟨n, e, _⟩ := h x hx
    subst e; rfl
theorem flat_len {z : Nat} {rows : List (List Value)} (h : ∀ r ∈ rows, r.length = z) : rows.flatten.length = rows.length * z := by
  induction rows with
  | nil => simp
  | cons r rows ih =>
    rw [List.flatten_cons, List.length_append, h r (by simp), ih fun r hr => h r (by simp [hr]), List.length_cons, Nat.succ_mul]; omega
theorem flat_row {z : Nat} : ∀ {rows : List (List Value)} (h : ∀ r ∈ rows, r.length = z) (i : Nat), i < rows.length → (rows.flatten.drop (i * z)).take z = rows.getD i []
  | [], _, i, hi => by simp at hi
  | r :: rows, h, 0, _ => by
    have := h r (by simp)
    rw [List.flatten_cons, Nat.zero_mul, List.drop_zero, List.take_append_of_le_length (by omega), List.take_of_length_le (by omega)]; rfl
  | r :: rows, h, i + 1, hi => by
    have hr := h r (by simp)
    have hz : (i + 1) * z = i * z + z := Nat.succ_mul i z
    rw [List.flatten_cons, List.drop_append, List.drop_of_length_le (by omega), List.nil_append, show (i + 1) * z - r.length = i * z by omega]
    exact flat_row (fun r hr => h r (by simp [hr])) i (by simpa using hi)
section
variable {w : World} {γ : Gm}
/-- a slice whose rows are known. -/
theorem RdS.fs {z : Nat} {p : List Value → Prop} {v : Value} (h : RdS w z p v) : ∃ rows : List (List Value), (∀ r ∈ rows, r.length = z ∧ p r) ∧ rows.length ≤ reachBytes ∧ flatOf w z v = rows.flatten.map ivalOf ∧ ∀ γ : Gm, γ.fz = fzOf w → ∀ r : Row, Fr r γ rows.flatten → F1 (.fs z r) γ v := by
  obtain ⟨a, len, cap, rows, rfl, h2, h3, h4, h5, h6⟩ := h
  have hfl : rows.flatten.length = len * z := by rw [flat_len fun r hr => (h5 r hr).1, h4]
  refine ⟨rows, h5, by omega, ?_, fun γ hγ r hr => ?_⟩
  · rcases h6 with ⟨h0, _⟩ | ⟨b, d, rfl, h0 | ⟨cs, e, f, hb, hc⟩⟩
    · have : rows = [] := List.eq_nil_of_length_eq_zero (by omega)
      subst this; subst h0
      cases a with
      | none => rfl
      | some a =>
        simp only [flatOf]
        split <;> simp
    · have : rows = [] := List.eq_nil_of_length_eq_zero (by omega)
      subst this; subst h0
      simp only [flatOf]
      split <;> simp
    · simp only [flatOf, hb, hc]
  · simp only [F1]
    refine ⟨rows.flatten, len, cap, a, rfl, hfl.symm, h2, hr, ?_⟩
    rcases h6 with h0 | ⟨b, d, rfl, h0 | ⟨cs, e, f, hb, hc⟩⟩
    · exact .inl h0
    · exact .inr ⟨b, d, rfl, .inl h0⟩
    · exact .inr ⟨b, d, rfl, .inr ⟨cs, by rw [hγ]; simp [fzOf, hb], by rw [hfl]; exact hc⟩⟩
theorem RdS.ints {z : Nat} {k : IntKind} {v : Value} (h : RdS w z (fun r => ∀ x ∈ r, RdI k x) v) (hγ : γ.fz = fzOf w) (l : L) (hl : l.den γ.env = flatOf w z v) : F1 (.fs z (.ints k l)) γ v ∧ (∀ x ∈ flatOf w z v, k.has x) ∧ ∃ m, m ≤ reachBytes ∧ (flatOf w z v).length = m * z := by
  obtain ⟨rows, h5, hm, hf, hF⟩ := h.fs
  have hall : ∀ x ∈ rows.flatten, RdI k x := fun x hx => by
    obtain ⟨r, hr, hx⟩ := List.mem_flatten.1 hx
    exact (h5 r hr).2 x hx
  refine ⟨hF γ hγ _ ?_, fun x hx => ?_, rows.length, hm, ?_⟩
  · simp only [Fr]; rw [hl, hf]; exact ints_ival hall
  · rw [hf] at hx
    obtain ⟨y, hy, rfl⟩ := List.mem_map.1 hx
    exact (hall y hy).ival.2
  · rw [hf, List.length_map, flat_len fun r hr => (h5 r hr).1]

/-! ### records -/
def numsOfR : List K0 → List Value → List Int
  | .int _ :: ks, v :: vs => ivalOf v :: numsOfR ks vs
  | .ints _ _ :: ks, _ :: vs => numsOfR ks vs
  | _, _ => []
def slsOf (w : World) : List K0 → List Value → List (List Int)
  | .int _ :: ks, _ :: vs => slsOf w ks vs
  | .ints z _ :: ks, v :: vs => flatOf w z v :: slsOf w ks vs
  | _, _ => []
def hasI : List K0 → Bool
  | [] => false
  | .int _ :: _ => true
  | _ :: ks => hasI ks
def cntS : List K0 → Nat
  | [] => 0
  | .int _ :: ks => cntS ks
  | _ :: ks => cntS ks + 1
def patR (li : Nat) : List K0 → Nat → Nat → List V
  | [], _, _ => []
  | .int k :: ks, j, s => .int k (.get (.at (.var li) .ix) (.lit (.ofNat j))) :: patR li ks (j + 1) s
  | .ints z k :: ks, j, s => .fs z (.ints k (.at (.var s) .ix)) :: patR li ks j (s + 1)
/-- a record's numbers. -/
def factI : List K0 → List Int → Prop
  | [], r => r = []
  | .int k :: ks, r => ∃ x t, r = x :: t ∧ k.has x ∧ factI ks t
  | .ints _ _ :: ks, r => factI ks r
def factS : List K0 → List (List Int) → Prop
  | [], r => r = []
  | .int _ :: ks, r => factS ks r
  | .ints z k :: ks, r => ∃ x t, r = x :: t ∧ ((∀ y ∈ x, k.has y) ∧ ∃ m, m ≤ reachBytes ∧ x.length = m * z) ∧ factS ks t
theorem rec_ok {li : Nat} (hγ : γ.fz = fzOf w) (i : Nat) : ∀ (ks : List K0) (r : List Value) (j s : Nat), Al (Rd0 w) ks r → (∀ q, q < (numsOfR ks r).length → ((γ.env.ll li).getD i []).getD (j + q) 0 = (numsOfR ks r).getD q 0) →
    (∀ q, q < cntS ks → (γ.env.ll (s + q)).getD i [] = (slsOf w ks r).getD q []) → Fs (patR li ks j s) (γ.at i) r ∧ factI ks (numsOfR ks r) ∧ factS ks (slsOf w ks r)
  | [], [], _, _, _, _, _ => ⟨by unfold patR Fs; trivial, rfl, rfl⟩
  | [], _ :: _, _, _, h, _, _ => by cases h
  | _ :: _, [], _, _, h, _, _ => by cases h
  | .int k :: ks, v :: r, j, s, ⟨h1, h2⟩, hI, hS => by
    have h1 : RdI k v := h1
    obtain ⟨e1, e2⟩ := h1.ival
    obtain ⟨a1, a2, a3⟩ := rec_ok hγ i ks r (j + 1) s h2 (fun q hq => by
      have := hI (q + 1) (by simp only [numsOfR, List.length_cons]; omega)
      rw [show j + 1 + q = j + (q + 1) by omega, this]; simp [numsOfR]) hS
    refine ⟨?_, ⟨_, _, rfl, e2, a2⟩, a3⟩
    unfold patR Fs
    refine ⟨?_, a1⟩
    simp only [F1]
    have := hI 0 (by simp [numsOfR])
    simp only [numsOfR, List.getD_cons_zero, Nat.add_zero] at this
    have hden : (E.get (.at (.var li) .ix) (.lit (.ofNat j))).den (γ.at i).env = ((γ.env.ll li).getD i []).getD j 0 := by
      simp [E.den, L.den, LL.den, Gm.at, Env.at]
    rw [hden, this]; exact e1
  | .ints z k :: ks, v :: r, j, s, ⟨h1, h2⟩, hI, hS => by
    have h1 : RdS w z (fun r => ∀ x ∈ r, RdI k x) v := h1
    obtain ⟨a1, a2, a3⟩ := rec_ok hγ i ks r j (s + 1) h2 hI (fun q hq => by
      have := hS (q + 1) (by simp only [cntS]; omega)
      rw [show s + 1 + q = s + (q + 1) by omega, this]; simp [slsOf])
    have hs := hS 0 (by simp only [cntS]; omega)
    simp only [slsOf, List.getD_cons_zero, Nat.add_zero] at hs
    have hfz : (γ.at i).fz = fzOf w := hγ
    obtain ⟨b1, b2, b3⟩ := h1.ints hfz (.at (.var s) .ix) (by simp [L.den, LL.den, E.den, Gm.at, Env.at, ← hs])
    refine ⟨?_, a2, ⟨_, _, rfl, ⟨b2, b3⟩, a3⟩⟩
    unfold patR Fs
    exact ⟨b1, a1⟩
end

/-! ### letters -/
structure Cn where
  e : Nat
  l : Nat
  ll : Nat
  b : Nat
def cn0 : Cn := ⟨0, 0, 0, 0⟩
def usesLL (ks : List K0) : Nat := (bif hasI ks then 1 else 0) + cntS ks
def pat1 (k : K1) (c : Cn) : List V × Cn := match k with
  | .int k => ([.int k (.var c.e)], { c with e := c.e + 1 })
  | .bool => ([.bool (.var c.b)], { c with b := c.b + 1 })
  | .str => ([.str (.var c.l)], { c with l := c.l + 1 })
  | .bytes n => ((List.range n).map (fun i => .int .u8 (.get (.var c.l) (.lit (.ofNat i)))), { c with l := c.l + 1 })
  | .sl [.int k] => ([.fs 1 (.ints k (.var c.l))], { c with l := c.l + 1 })
  | .sl ks => ([.fs ks.length (.recs ks.length (.cnt (.var c.ll)) (patR c.ll ks 0 (c.ll + bif hasI ks then 1 else 0)))], { c with ll := c.ll + usesLL ks })
def pats : List K1 → Cn → List V × Cn
  | [], c => ([], c)
  | k :: l, c => let a := pat1 k c; let b := pats l a.2; (a.1 ++ b.1, b.2)
/-- what is known of the letters. -/
def fact1 (k : K1) (c : Cn) (ρ : Env) : Prop := match k with
  | .int k => k.has (ρ.e c.e)
  | .bool => True
  | .str => (ρ.l c.l).length ≤ reachBytes ∧ ∀ x ∈ ρ.l c.l, IntKind.u8.has x
  | .bytes n => (ρ.l c.l).length = n ∧ ∀ x ∈ ρ.l c.l, IntKind.u8.has x
  | .sl [.int k] => (ρ.l c.l).length ≤ reachBytes ∧ ∀ x ∈ ρ.l c.l, k.has x
  | .sl ks => (ρ.ll c.ll).length ≤ reachBytes ∧ (∀ q, q < usesLL ks → (ρ.ll (c.ll + q)).length = (ρ.ll c.ll).length) ∧ (hasI ks = true → ∀ r ∈ ρ.ll c.ll, factI ks r) ∧
    ∀ i, i < (ρ.ll c.ll).length → factS ks ((List.range (cntS ks)).map fun q => (ρ.ll (c.ll + (bif hasI ks then 1 else 0) + q)).getD i [])
def facts : List K1 → Cn → Env → Prop
  | [], _, _ => True
  | k :: l, c, ρ => fact1 k c ρ ∧ facts l (pat1 k c).2 ρ
structure Lt where
  e : List Int
  l : List (List Int)
  ll : List (List (List Int))
  b : List Bool
def lt0 : Lt := ⟨[], [], [], []⟩
def Lt.cn (x : Lt) : Cn := ⟨x.e.length, x.l.length, x.ll.length, x.b.length⟩
def Lt.env (x : Lt) : Env := ⟨fun i => x.e.getD i 0, fun i => x.l.getD i [], fun i => x.ll.getD i [], fun i => x.b.getD i false, 0⟩
structure Agr (x : Lt) (ρ : Env) : Prop where
  e : ∀ i, i < x.e.length → ρ.e i = x.e.getD i 0
  l : ∀ i, i < x.l.length → ρ.l i = x.l.getD i []
  ll : ∀ i, i < x.ll.length → ρ.ll i = x.ll.getD i []
  b : ∀ i, i < x.b.length → ρ.b i = x.b.getD i false
theorem Lt.env_agr (x : Lt) : Agr x x.env := ⟨fun _ _ => rfl, fun _ _ => rfl, fun _ _ => rfl, fun _ _ => rfl⟩
def Lt.le (x y : Lt) : Prop := x.e <+: y.e ∧ x.l <+: y.l ∧ x.ll <+: y.ll ∧ x.b <+: y.b
theorem pre_get {α : Type} {d : α} {a b : List α} (h : a <+: b) {i : Nat} (hi : i < a.length) : b.getD i d = a.getD i d := by
  obtain ⟨t, rfl⟩ := h
  simp only [List.getD, List.getElem?_append_left hi]
theorem Lt.le.agr {x y : Lt} (h : x.le y) {ρ : Env} (ha : Agr y ρ) : Agr x ρ := by
  obtain ⟨h1, h2, h3, h4⟩ := h
  exact ⟨fun i hi => by rw [ha.e i (Nat.lt_of_lt_of_le hi h1.length_le), pre_get h1 hi], fun i hi => by rw [ha.l i (Nat.lt_of_lt_of_le hi h2.length_le), pre_get h2 hi], fun i hi => by rw [ha.ll i (Nat.lt_of_lt_of_le hi h3.length_le), pre_get h3 hi], fun i hi => by rw [ha.b i (Nat.lt_of_lt_of_le hi h4.length_le), pre_get h4 hi]⟩
theorem Lt.le.refl (x : Lt) : x.le x := ⟨List.prefix_refl _, List.prefix_refl _, List.prefix_refl _, List.prefix_refl _⟩
theorem Lt.le.trans {x y z : Lt} (h : x.le y) (k : y.le z) : x.le z := ⟨h.1.trans k.1, h.2.1.trans k.2.1, h.2.2.1.trans k.2.2.1, h.2.2.2.trans k.2.2.2⟩
theorem getD_last {α : Type} {d a : α} (l : List α) : (l ++ [a]).getD l.length d = a := by simp [List.getD]
theorem str_ival (s : ByteArray) : strOf (svalOf (.string s)) = s := by
  cases s with
  | mk d =>
    simp only [svalOf, strOf, List.map_map]
    congr 1
    apply Array.ext'
    conv => rhs; rw [← List.map_id d.toList]
    simp only [Function.comp_def]
    exact List.map_congr_left fun x _ => by simp
theorem slsOf_len {w : World} : ∀ {ks : List K0} {r : List Value}, Al (Rd0 w) ks r → (slsOf w ks r).length = cntS ks
  | [], [], _ => rfl
  | [], _ :: _, h => by cases h
  | _ :: _, [], h => by cases h
  | .int k :: ks, v :: r, h => slsOf_len (ks := ks) h.2
  | .ints z k :: ks, v :: r, h => by simp only [slsOf, cntS, List.length_cons, slsOf_len (ks := ks) h.2]
theorem range_getD {α : Type} {d : α} (l : List α) (n : Nat) (h : l.length = n) : (List.range n).map (fun q => l.getD q d) = l := by
  apply List.ext_getElem?
  intro i
  by_cases hi : i < n
  · simp [hi, List.getD, show i < l.length by omega]
  · simp [hi, show l.length ≤ i by omega]
theorem getD_map_lt {α β : Type} {d : α} {e : β} (l : List α) (f : α → β) (i : Nat) (h : i < l.length) : (l.map f).getD i e = f (l.getD i d) := by
  simp [List.getD, h]
theorem numsOfR_nil : ∀ {ks : List K0} {r : List Value}, hasI ks = false → numsOfR ks r = []
  | [], r, _ => by cases r <;> rfl
  | .int k :: ks, r, h => by simp [hasI] at h
  | .ints z k :: ks, [], h => rfl
  | .ints z k :: ks, v :: r, h => numsOfR_nil (ks := ks) h
theorem letter1 {w : World} (k : K1) (xs : List Value) (x : Lt) (h : Rd1 w k xs) : ∃ y : Lt, x.le y ∧ y.cn = (pat1 k x.cn).2 ∧ ∀ γ : Gm, γ.fz = fzOf w → Agr y γ.env → F2 (fun v x => F1 v γ x) (pat1 k x.cn).1 xs ∧ fact1 k x.cn γ.env := by
  have recs : ∀ ks : List K0, (ks ≠ [] ∧ ∃ v, xs = [v] ∧ RdS w ks.length (fun r => Al (Rd0 w) ks r) v) → ∃ y : Lt, x.le y ∧ y.cn = { x.cn with ll := x.cn.ll + usesLL ks } ∧ ∀ γ : Gm, γ.fz = fzOf w → Agr y γ.env →
      F2 (fun v x => F1 v γ x) [V.fs ks.length (.recs ks.length (.cnt (.var x.cn.ll)) (patR x.cn.ll ks 0 (x.cn.ll + bif hasI ks then 1 else 0)))] xs ∧
      ((γ.env.ll x.cn.ll).length ≤ reachBytes ∧ (∀ q, q < usesLL ks → (γ.env.ll (x.cn.ll + q)).length = (γ.env.ll x.cn.ll).length) ∧ (hasI ks = true → ∀ r ∈ γ.env.ll x.cn.ll, factI ks r) ∧
    ∀ i, i < (γ.env.ll x.cn.ll).length → factS ks ((List.range (cntS ks)).map fun q => (γ.env.ll (x.cn.ll + (bif hasI ks then 1 else 0) + q)).getD i [])) := by
    intro ks ⟨hne, v, e, hv⟩
    subst e
    obtain ⟨rows, h5, hm, _, hF⟩ := hv.fs
    have hb : ∃ hb : Nat, (bif hasI ks then 1 else 0) = hb ∧ usesLL ks = hb + cntS ks := ⟨_, rfl, rfl⟩
    obtain ⟨hb, e1, e2⟩ := hb
    rw [e1]
    have hpos : 0 < usesLL ks := by
      cases ks with
      | nil => exact (hne rfl).elim
      | cons q ks => cases q <;> simp [usesLL, hasI, cntS] <;> omega
    let new : List (List (List Int)) := (bif hasI ks then [rows.map (numsOfR ks)] else []) ++ (List.range (cntS ks)).map fun q => rows.map fun r => (slsOf w ks r).getD q []
    have hhb : (bif hasI ks then [rows.map (numsOfR ks)] else [] : List (List (List Int))).length = hb := by rw [← e1]; cases hasI ks <;> rfl
    have hnl : new.length = usesLL ks := by simp only [new, List.length_append, hhb, List.length_map, List.length_range, e2]
    have hnS : ∀ q, q < cntS ks → new.getD (hb + q) [] = rows.map fun r => (slsOf w ks r).getD q [] := fun q hq => by
      simp only [new, List.getD]
      rw [List.getElem?_append_right (by omega), hhb, show hb + q - hb = q by omega]
      simp [hq]
    have hnI : hasI ks = true → new.getD 0 [] = rows.map (numsOfR ks) := fun hh => by simp [new, hh]
    have hnlen : ∀ q, q < usesLL ks → (new.getD q []).length = rows.length := fun q hq => by
      by_cases h : q < hb
      · have hh : hasI ks = true := by
          cases hh : hasI ks with
          | true => rfl
          | false => rw [hh] at e1; simp at e1; omega
        rw [hh] at e1
        simp at e1
        obtain rfl : q = 0 := by omega
        rw [hnI hh, List.length_map]
      · have := hnS (q - hb) (by omega)
        rw [show hb + (q - hb) = q by omega] at this
        rw [this, List.length_map]
    refine ⟨{ x with ll := x.ll ++ new }, ⟨List.prefix_refl _, List.prefix_refl _, List.prefix_append _ _, List.prefix_refl _⟩, by simp [Lt.cn, hnl], fun γ hγ ha => ?_⟩
    have hll : ∀ q, q < usesLL ks → γ.env.ll (x.ll.length + q) = new.getD q [] := fun q hq => by
      rw [ha.ll _ (by simp; omega)]
      simp only [List.getD]
      rw [List.getElem?_append_right (by omega), show x.ll.length + q - x.ll.length = q by omega]
    have h0 := hll 0 hpos
    rw [Nat.add_zero] at h0
    have hl0 : (γ.env.ll x.ll.length).length = rows.length := by rw [h0]; exact hnlen 0 hpos
    have each : ∀ i, i < rows.length → Fs (patR x.ll.length ks 0 (x.ll.length + hb)) (γ.at i) (rows.getD i []) ∧ factI ks (numsOfR ks (rows.getD i [])) ∧ factS ks (slsOf w ks (rows.getD i [])) := fun i hi => by
      have hr : rows.getD i [] ∈ rows := by rw [List.getD, List.getElem?_eq_getElem hi]; exact List.getElem_mem hi
      refine rec_ok hγ i ks _ 0 _ (h5 _ hr).2 (fun q hq => ?_) fun q hq => ?_
      · cases hh : hasI ks with
        | false => rw [numsOfR_nil hh] at hq; simp at hq
        | true => rw [h0, hnI hh, getD_map_lt (d := []) rows _ i hi, Nat.zero_add]
      · rw [Nat.add_assoc, hll _ (by omega), hnS q hq, getD_map_lt (d := []) rows _ i hi]
    refine ⟨⟨hF γ hγ _ ?_, trivial⟩, ?_, ?_, ?_, ?_⟩
    · simp only [Fr, E.den, LL.den, Lt.cn]
      rw [hl0]
      refine ⟨by omega, by rw [flat_len fun r hr => (h5 r hr).1]; simp, fun i hi => ?_⟩
      have hi : i < rows.length := by simpa using hi
      rw [flat_row (fun r hr => (h5 r hr).1) i hi]
      exact (each i hi).1
    · show (γ.env.ll x.ll.length).length ≤ _; omega
    · intro q hq
      show (γ.env.ll (x.ll.length + q)).length = (γ.env.ll x.ll.length).length
      rw [hll q hq, hnlen q hq, hl0]
    · intro hh r hr
      have hr : r ∈ γ.env.ll x.ll.length := hr
      rw [h0, hnI hh] at hr
      obtain ⟨r0, hr0, rfl⟩ := List.mem_map.1 hr
      obtain ⟨i, hi, rfl⟩ := List.getElem_of_mem hr0
      have := (each i hi).2.1
      rwa [List.getD, List.getElem?_eq_getElem hi] at this
    · intro i hi
      have hi : i < rows.length := by rw [← hl0]; exact hi
      have h6 : (List.range (cntS ks)).map (fun q => (γ.env.ll (x.ll.length + hb + q)).getD i []) = slsOf w ks (rows.getD i []) := by
        have hr : rows.getD i [] ∈ rows := by rw [List.getD, List.getElem?_eq_getElem hi]; exact List.getElem_mem hi
        rw [← range_getD (d := []) (slsOf w ks (rows.getD i [])) (cntS ks) (slsOf_len (h5 _ hr).2)]
        refine List.map_congr_left fun q hq => ?_
        have hq : q < cntS ks := by simpa using hq
        rw [Nat.add_assoc, hll _ (by omega), hnS q hq, getD_map_lt (d := []) rows _ i hi]
      show factS ks ((List.range (cntS ks)).map (fun q => (γ.env.ll (x.ll.length + hb + q)).getD i []))
      rw [h6]; exact (each i hi).2.2
  match k, h with
  | .int k, ⟨v, e, hv⟩ =>
    subst e
    refine ⟨{ x with e := x.e ++ [ivalOf v] }, ⟨List.prefix_append _ _, List.prefix_refl _, List.prefix_refl _, List.prefix_refl _⟩, by simp [Lt.cn, pat1], fun γ hγ ha => ?_⟩
    have he : γ.env.e x.e.length = ivalOf v := by rw [ha.e _ (by simp)]; exact getD_last _
    obtain ⟨h1, h2⟩ := hv.ival
    exact ⟨⟨by simp only [F1, E.den, Lt.cn]; rw [he]; exact h1, trivial⟩, by show k.has (γ.env.e x.e.length); rw [he]; exact h2⟩
  | .bool, ⟨b, e⟩ =>
    subst e
    refine ⟨{ x with b := x.b ++ [b] }, ⟨List.prefix_refl _, List.prefix_refl _, List.prefix_refl _, List.prefix_append _ _⟩, by simp [Lt.cn, pat1], fun γ hγ ha => ?_⟩
    have he : γ.env.b x.b.length = b := by rw [ha.b _ (by simp)]; exact getD_last _
    exact ⟨⟨by simp only [F1, B.den, Lt.cn]; rw [he], trivial⟩, trivial⟩
  | .str, ⟨s, e, hs⟩ =>
    subst e
    refine ⟨{ x with l := x.l ++ [svalOf (.string s)] }, ⟨List.prefix_refl _, List.prefix_append _ _, List.prefix_refl _, List.prefix_refl _⟩, by simp [Lt.cn, pat1], fun γ hγ ha => ?_⟩
    have he : γ.env.l x.l.length = svalOf (.string s) := by rw [ha.l _ (by simp)]; exact getD_last _
    refine ⟨⟨by simp only [F1, L.den, Lt.cn]; rw [he, str_ival], trivial⟩, ?_, ?_⟩
    · show (γ.env.l x.l.length).length ≤ _
      rw [he]; simpa [svalOf] using hs
    · show ∀ y ∈ γ.env.l x.l.length, _
      rw [he]
      intro y hy
      obtain ⟨b, _, rfl⟩ := List.mem_map.1 hy
      have := b.toNat_lt
      exact ⟨by show (0 : Int) ≤ _; omega, by show (_ : Int) ≤ 255; omega⟩
  | .bytes n, ⟨hn, hall⟩ =>
    refine ⟨{ x with l := x.l ++ [xs.map ivalOf] }, ⟨List.prefix_refl _, List.prefix_append _ _, List.prefix_refl _, List.prefix_refl _⟩, by simp [Lt.cn, pat1], fun γ hγ ha => ?_⟩
    have he : γ.env.l x.l.length = xs.map ivalOf := by rw [ha.l _ (by simp)]; exact getD_last _
    refine ⟨?_, ?_, ?_⟩
    · refine F2.of_get (by simp [pat1, hn]) fun i v y hv hy => ?_
      have hi : i < xs.length := (List.getElem?_eq_some_iff.1 hy).1
      simp only [pat1, List.getElem?_map, List.getElem?_range (by omega : i < n), Option.map_some, Option.some.injEq] at hv
      subst hv
      have hd : (E.get (.var x.l.length) (.lit (.ofNat i))).den γ.env = ivalOf y := by
        simp only [E.den, L.den, he]
        simp [List.getD, hy]
      simp only [F1, Lt.cn]
      rw [hd]
      exact (hall y (List.mem_of_getElem? hy)).ival.1
    · show (γ.env.l x.l.length).length = n
      rw [he, List.length_map, hn]
    · show ∀ y ∈ γ.env.l x.l.length, _
      rw [he]
      intro y hy
      obtain ⟨v, hv, rfl⟩ := List.mem_map.1 hy
      exact (hall v hv).ival.2
  | .sl [.int k], ⟨_, v, e, hv⟩ =>
    subst e
    have hv' : RdS w 1 (fun r => ∀ x ∈ r, RdI k x) v := hv.mono fun r _ hr => Al.ints (ks := [.int k]) (by simp) hr
    refine ⟨{ x with l := x.l ++ [flatOf w 1 v] }, ⟨List.prefix_refl _, List.prefix_append _ _, List.prefix_refl _, List.prefix_refl _⟩, by simp [Lt.cn, pat1], fun γ hγ ha => ?_⟩
    have he : γ.env.l x.l.length = flatOf w 1 v := by rw [ha.l _ (by simp)]; exact getD_last _
    obtain ⟨b1, b2, m, hm, b3⟩ := hv'.ints hγ (.var x.l.length) (by simpa [L.den] using he)
    exact ⟨⟨b1, trivial⟩, by show (γ.env.l x.l.length).length ≤ _; rw [he, b3]; omega, by show ∀ y ∈ γ.env.l x.l.length, _; rw [he]; exact b2⟩
  | .sl [], h => exact recs [] h
  | .sl [.ints z k], h => exact recs [.ints z k] h
  | .sl (a :: b :: ks), h =>
    have := recs (a :: b :: ks) h
    cases a <;> exact this
theorem F2.app1 {r : V → Value → Prop} {as bs : List V} {xs ys : List Value} (h : F2 r as xs) (h' : F2 r bs ys) : F2 r (as ++ bs) (xs ++ ys) := F2.app h h'
theorem letters {w : World} : ∀ (ks : List K1) (xs : List Value) (x : Lt), RdG w ks xs → ∃ y : Lt, x.le y ∧ y.cn = (pats ks x.cn).2 ∧ ∀ γ : Gm, γ.fz = fzOf w → Agr y γ.env → F2 (fun v x => F1 v γ x) (pats ks x.cn).1 xs ∧ facts ks x.cn γ.env
  | [], xs, x, h => by
    have h : xs = [] := h
    subst h
    exact ⟨x, Lt.le.refl x, rfl, fun γ _ _ => ⟨trivial, trivial⟩⟩
  | k :: ks, xs, x, ⟨a, b, e, _, h1, h2⟩ => by
    subst e
    obtain ⟨y, y1, y2, y3⟩ := letter1 k a x h1
    obtain ⟨z, z1, z2, z3⟩ := letters ks b y h2
    rw [y2] at z2 z3
    refine ⟨z, y1.trans z1, z2, fun γ hγ ha => ?_⟩
    obtain ⟨c1, c2⟩ := y3 γ hγ (z1.agr ha)
    obtain ⟨d1, d2⟩ := z3 γ hγ ha
    exact ⟨F2.app c1 d1, c2, d2⟩

/-! ### arguments -/
def isAgT (P : Program) (t : TypeId) : Bool := match P.underlying t with
  | some (.struct _) | some (.array _ _) => true
  | _ => false
def patA (P : Program) (t : TypeId) (ks : List K1) (c : Cn) : V := bif isAgT P t then .agg (pats ks c).1 else match (pats ks c).1 with
  | [v] => v
  | _ => .und
/-- arguments by their types: patterns. -/
def patArgs (P : Program) : List (TypeId × List K1) → Cn → List V
  | [], _ => []
  | a :: l, c => patA P a.1 a.2 c :: patArgs P l (pats a.2 c).2
def factArgs : List (TypeId × List K1) → Cn → Env → Prop
  | [], _, _ => True
  | a :: l, c, ρ => facts a.2 c ρ ∧ factArgs l (pats a.2 c).2 ρ
/-- what is known of arguments. -/
def ArgsRd (P : Program) (w : World) : List (TypeId × List K1) → List Value → Prop
  | [], xs => xs = []
  | a :: l, xs => ∃ x r, xs = x :: r ∧ (RdG w a.2 x.cells.toList ∧ (if isAgT P a.1 = true then ∃ cs, x = .agg cs else x.oneCell' = true)) ∧ ArgsRd P w l r
theorem cells_one {x : Value} (h : x.oneCell' = true) : x.cells.toList = [x] := by cases x <;> first | rfl | (simp [Value.oneCell'] at h)
theorem args_ok {P : Program} {w : World} : ∀ (l : List (TypeId × List K1)) (xs : List Value) (x : Lt), ArgsRd P w l xs → ∃ y : Lt, x.le y ∧ ∀ β : Bt, β.g.fz = fzOf w → Agr y β.g.env → F2 (R β) (patArgs P l x.cn) xs ∧ factArgs l x.cn β.g.env
  | [], xs, x, h => by
    have h : xs = [] := h
    subst h
    exact ⟨x, Lt.le.refl x, fun β _ _ => ⟨trivial, trivial⟩⟩
  | a :: l, xs, x, ⟨u, r, e, ⟨h1, h2⟩, h3⟩ => by
    subst e
    obtain ⟨y, y1, y2, y3⟩ := letters a.2 _ x h1
    obtain ⟨z, z1, z3⟩ := args_ok l r y h3
    rw [y2] at z3
    refine ⟨z, y1.trans z1, fun β hβ ha => ?_⟩
    obtain ⟨c1, c2⟩ := y3 β.g hβ (z1.agr ha)
    obtain ⟨d1, d2⟩ := z3 β hβ ha
    refine ⟨⟨?_, d1⟩, c2, d2⟩
    unfold patA
    cases hag : isAgT P a.1 with
    | true =>
      rw [hag, if_pos rfl] at h2
      obtain ⟨cs, rfl⟩ := h2
      refine R2.up (v := .agg _) ⟨cs, rfl, F2.mono (fun v x hv => (F1.up hv).up) c1⟩
    | false =>
      rw [hag] at h2
      simp only [Bool.false_eq_true, if_false] at h2
      rw [cells_one h2] at c1
      rw [cond_false]
      match hp : (pats a.2 x.cn).1, c1 with
      | [v], c1 => exact R0.toR (F1.up c1.1)
      | [], c1 => exact c1.elim
      | _ :: _ :: _, c1 => exact c1.2.elim
theorem arg_rd {H : Type} {enc : TypeId × Value → H} {P : Program} {w : World} {b d t : Nat} {ks : List K1} {v : Value} {x : DataW H} {p : List MemPlace} (hk : kindsT P d t = some ks) (ht : DataW.Trod enc P w 0 (fun _ => true) true t v x p) (hl : light (x.weights P t)) (ho : Value.okWide P w .any b t v) :
    RdG w ks v.cells.toList ∧ (if isAgT P t = true then ∃ cs, v = .agg cs else v.oneCell' = true) := by
  obtain ⟨m, hm⟩ := ht
  refine ⟨trod_rd d t ks m _ (x, p) hk hm hl, ?_⟩
  cases d with
  | zero => cases hk
  | succ d =>
    unfold kindsT at hk
    unfold Value.okWide at ho
    unfold isAgT
    split at hk
    · rename_i k hu
      rw [hu] at ho ⊢
      simp only [Cell.okWide, hu] at ho
      cases v <;> simp [Cell.ok, hu] at ho <;> rfl
    · rename_i hu
      rw [hu] at ho ⊢
      simp only [Cell.okWide, hu] at ho
      cases v <;> simp [Cell.ok, hu] at ho <;> rfl
    · rename_i hu
      rw [hu] at ho ⊢
      simp only [Cell.okWide, hu] at ho
      cases v <;> simp [Cell.ok, hu] at ho <;> rfl
    · rename_i fs hu
      rw [hu] at ho ⊢
      obtain ⟨cs, rfl, _⟩ := ho
      exact ⟨cs, rfl⟩
    · rename_i n e hu
      rw [hu] at ho ⊢
      obtain ⟨cs, rfl, _⟩ := ho
      exact ⟨cs, rfl⟩
    · rename_i e hu
      rw [hu] at ho ⊢
      simp only [Cell.okWide, hu] at ho
      cases v <;> simp [Cell.ok, hu] at ho <;> rfl
    · cases hk
theorem light_of {l : List Nat} (h : l.all (· ≤ reachBytes) = true) : light l := fun n hn => by
  have := List.all_eq_true.1 h n hn
  simpa using this
/-- **a law by its letters.** -/
theorem law_ok {P : Program} (hm : P.follows .mixedOrders = true) {cf : Cf} (hcf : CfOk P cf) {fuel depth : Nat} {g : FuncId} (l : List (TypeId × List K1)) {xs : List Value} {W : World} (hA : ArgsRd P W l xs)
    (h : ∀ ρ : Env, factArgs l cn0 ρ → (want (exec P cf fuel depth g (patArgs P l cn0))).den ρ = true) : Calls P g xs.toArray W (fun e W' => e = .returned (.bool true) ∧ Below W.heap.size W W') := by
  obtain ⟨y, _, hy⟩ := args_ok l xs lt0 hA
  have := hy (allFz y.env W) rfl y.env_agr
  exact exec_law hm hcf (h y.env this.2) W this.1
end Go.Proofs.YtmckhoaekbeijaaGreat.E
/- Trees with one good end. Plain Lean over the kit's model; no program. -/
namespace Go.Proofs.YtmckhoaekbeijaaGreat.E
open Go Go.RowKit
set_option linter.unusedVariables false
def allBad {α : Type} (bad : α → Bool) : T α → Bool
  | .leaf a => bad a
  | .br _ l r => allBad bad l && allBad bad r
  | .dead => false
def lad {α : Type} (bad : α → Bool) : T α → Option (List (B × Bool) × α)
  | .leaf a => bif bad a then none else some ([], a)
  | .br c l r => bif allBad bad l then (match lad bad r with
      | some (cs, g) => some ((c, false) :: cs, g)
      | none => none)
    else bif allBad bad r then (match lad bad l with
      | some (cs, g) => some ((c, true) :: cs, g)
      | none => none)
    else none
  | .dead => none
def holdAll (ρ : Env) (cs : List (B × Bool)) : Prop := ∀ p ∈ cs, p.1.den ρ = p.2
theorem allBad_ok {α : Type} {bad : α → Bool} {ρ : Env} : ∀ {t : T α}, allBad bad t = true → ∃ q, t.pick ρ = some q ∧ bad q = true
  | .leaf a, h => ⟨a, rfl, h⟩
  | .br c l r, h => by
    simp only [allBad, Bool.and_eq_true] at h
    simp only [T.pick]
    cases c.den ρ with
    | true => exact allBad_ok h.1
    | false => exact allBad_ok h.2
  | .dead, h => by cases h
theorem lad_ok {α : Type} {bad : α → Bool} {ρ : Env} : ∀ {t : T α} {cs : List (B × Bool)} {g : α}, lad bad t = some (cs, g) → (holdAll ρ cs → t.pick ρ = some g) ∧ (¬ holdAll ρ cs → ∃ q, t.pick ρ = some q ∧ bad q = true)
  | .leaf a, cs, g, h => by
    unfold lad at h
    cases hb : bad a with
    | true => rw [hb] at h; cases h
    | false => rw [hb] at h; cases h; exact ⟨fun _ => rfl, fun h => (h fun p hp => by cases hp).elim⟩
  | .br c l r, cs, g, h => by
    unfold lad at h
    have hcons : ∀ (b : Bool) cs', holdAll ρ ((c, b) :: cs') ↔ (c.den ρ = b ∧ holdAll ρ cs') := fun b cs' => by simp [holdAll]
    cases hl : allBad bad l with
    | true =>
      rw [hl, cond_true] at h
      split at h
      · rename_i cs' g' hr
        cases h
        obtain ⟨h1, h2⟩ := lad_ok (ρ := ρ) hr
        rw [hcons]
        simp only [T.pick]
        cases hc : c.den ρ with
        | true => exact ⟨fun h => (by cases h.1), fun _ => allBad_ok hl⟩
        | false => exact ⟨fun h => h1 h.2, fun h => h2 fun k => h ⟨rfl, k⟩⟩
      · cases h
    | false =>
      rw [hl, cond_false] at h
      cases hr : allBad bad r with
      | true =>
        rw [hr, cond_true] at h
        split at h
        · rename_i cs' g' hr'
          cases h
          obtain ⟨h1, h2⟩ := lad_ok (ρ := ρ) hr'
          rw [hcons]
          simp only [T.pick]
          cases hc : c.den ρ with
          | false => exact ⟨fun h => (by cases h.1), fun _ => allBad_ok hr⟩
          | true => exact ⟨fun h => h1 h.2, fun h => h2 fun k => h ⟨rfl, k⟩⟩
        · cases h
      | false => rw [hr] at h; cases h
  | .dead, cs, g, h => by cases h
end Go.Proofs.YtmckhoaekbeijaaGreat.E
/- Laws by rules: what is left to show follows, branch by branch, from what was asked and from rules. Plain Lean over the kit's model; no program. -/
namespace Go.Proofs.YtmckhoaekbeijaaGreat.E
open Go Go.RowKit
set_option linter.unusedVariables false
/-- where all of 'g' stands so, 'b' holds. -/
structure Rule where
  g : List (B × Bool)
  b : B
def Rule.Ok (ρ : Env) (r : Rule) : Prop := holdAll ρ r.g → r.b.den ρ = true
def hasK (kn : List (B × Bool)) (p : B × Bool) : Bool := kn.any fun q => q.1.same p.1 && bN q.2 p.2
def byRule (rules : List Rule) (kn : List (B × Bool)) (b : B) : Bool := rules.any fun r => r.b.same b && r.g.all (hasK kn)
def derB (rules : List Rule) (kn : List (B × Bool)) (b : B) : Bool := match b with
  | .lit true => true
  | .and x y => (isXor x y && (hasK kn (.and x y, true) || byRule rules kn (.and x y))) || (derB rules kn x && derB rules kn y)
  | .not x => hasK kn (x, false) || hasK kn (.not x, true) || byRule rules kn (.not x)
  | b => hasK kn (b, true) || byRule rules kn b
/-- what a truth tells of its parts. -/
def partsB : B → List (B × Bool)
  | .and a b => partsB a ++ partsB b
  | .not a => [(a, false), (.not a, true)]
  | b => [(b, true)]
def lawChk (rules : List Rule) : List (B × Bool) → T (V × List B) → Bool
  | kn, .leaf (v, oks) => match v with
    | .bool b => derB rules kn b && oks.all (derB rules kn)
    | _ => false
  | kn, .br c l r => bif derB rules kn c then lawChk rules kn l else bif derB rules kn (.not c) then lawChk rules kn r else
    lawChk rules ((c, true) :: (partsB c ++ kn)) l && lawChk rules ((c, false) :: kn) r
  | _, .dead => false
section
variable {ρ : Env} {rules : List Rule} (hr : ∀ r ∈ rules, r.Ok ρ)
theorem hasK_ok {kn : List (B × Bool)} (hk : holdAll ρ kn) {p : B × Bool} (h : hasK kn p = true) : p.1.den ρ = p.2 := by
  unfold hasK at h
  rw [List.any_eq_true] at h
  obtain ⟨q, hq, h⟩ := h
  simp only [Bool.and_eq_true] at h
  rw [← B.same_ok h.1, ← bN_inj h.2]
  exact hk q hq
include hr in
theorem byRule_ok {kn : List (B × Bool)} (hk : holdAll ρ kn) {b : B} (h : byRule rules kn b = true) : b.den ρ = true := by
  unfold byRule at h
  rw [List.any_eq_true] at h
  obtain ⟨r, hm, h⟩ := h
  simp only [Bool.and_eq_true, List.all_eq_true] at h
  rw [← B.same_ok h.1]
  exact hr r hm fun p hp => hasK_ok hk (h.2 p hp)
include hr in
theorem derB_ok {kn : List (B × Bool)} (hk : holdAll ρ kn) : ∀ {b : B}, derB rules kn b = true → b.den ρ = true
  | .lit true, _ => rfl
  | .and x y, h => by
    unfold derB at h
    simp only [Bool.or_eq_true, Bool.and_eq_true] at h
    rcases h with ⟨_, h⟩ | h
    · rcases h with h | h
      · exact hasK_ok hk h
      · exact byRule_ok hr hk h
    simp only [B.den, derB_ok hk h.1, derB_ok hk h.2]; rfl
  | .not x, h => by
    unfold derB at h
    simp only [Bool.or_eq_true] at h
    rcases h with (h | h) | h
    · have := hasK_ok hk h
      simp only at this
      simp only [B.den, this]; rfl
    · exact hasK_ok hk h
    · exact byRule_ok hr hk h
  | .lit false, h | .var _, h | .lt .., h | .eq .., h | .leq .., h | .seq .., h => by
    unfold derB at h
    simp only [Bool.or_eq_true] at h
    rcases h with h | h
    · exact hasK_ok hk h
    · exact byRule_ok hr hk h
theorem partsB_ok : ∀ {b : B}, b.den ρ = true → holdAll ρ (partsB b)
  | .and a b, h => by
    simp only [B.den, Bool.and_eq_true] at h
    intro p hp
    unfold partsB at hp
    rcases List.mem_append.1 hp with hp | hp
    · exact partsB_ok h.1 p hp
    · exact partsB_ok h.2 p hp
  | .not a, h => by
    intro p hp
    unfold partsB at hp
    simp only [List.mem_cons, List.not_mem_nil, or_false] at hp
    rcases hp with rfl | rfl
    · simpa [B.den] using h
    · exact h
  | .lit _, h | .var _, h | .lt .., h | .eq .., h | .leq .., h | .seq .., h => by
    intro p hp
    unfold partsB at hp
    simp only [List.mem_cons, List.not_mem_nil, or_false] at hp
    subst hp; exact h
include hr in
theorem lawChk_ok : ∀ {t : T (V × List B)} {kn : List (B × Bool)}, holdAll ρ kn → lawChk rules kn t = true → ∃ b oks, t.pick ρ = some (.bool b, oks) ∧ b.den ρ = true ∧ okOk ρ oks
  | .leaf (v, oks), kn, hk, h => by
    unfold lawChk at h
    cases v with
    | bool b =>
      simp only [Bool.and_eq_true, List.all_eq_true] at h
      exact ⟨b, oks, rfl, derB_ok hr hk h.1, fun c hc => derB_ok hr hk (h.2 c hc)⟩
    | _ => cases h
  | .br c l r, kn, hk, h => by
    unfold lawChk at h
    simp only [T.pick]
    cases h1 : derB rules kn c with
    | true =>
      rw [h1, cond_true] at h
      rw [derB_ok hr hk h1]
      exact lawChk_ok hk h
    | false =>
      rw [h1, cond_false] at h
      cases h2 : derB rules kn (.not c) with
      | true =>
        rw [h2, cond_true] at h
        have : c.den ρ = false := by have := derB_ok hr hk h2; simpa [B.den] using this
        rw [this]
        exact lawChk_ok hk h
      | false =>
        rw [h2, cond_false] at h
        simp only [Bool.and_eq_true] at h
        cases hc : c.den ρ with
        | true => exact lawChk_ok (fun p hp => by
            rcases List.mem_cons.1 hp with rfl | hp
            · exact hc
            · rcases List.mem_append.1 hp with hp | hp
              · exact partsB_ok hc p hp
              · exact hk p hp) h.1
        | false => exact lawChk_ok (fun p hp => by
            rcases List.mem_cons.1 hp with rfl | hp
            · exact hc
            · exact hk p hp) h.2
  | .dead, kn, hk, h => by cases h
end
def resOk (t : T (V × St)) : T (V × List B) := t.map fun q => (q.1, q.2.ok)
theorem T.map_pick {α β : Type} {f : α → β} {ρ : Env} : ∀ {t : T α} {b : β}, (t.map f).pick ρ = some b → ∃ a, t.pick ρ = some a ∧ f a = b
  | .leaf a, b, h => by simp only [T.map, T.pick, Option.some.injEq] at h; exact ⟨a, rfl, h⟩
  | .br c l r, b, h => by
    simp only [T.map, T.pick] at h ⊢
    cases hc : c.den ρ with
    | true => rw [hc] at h; exact T.map_pick h
    | false => rw [hc] at h; exact T.map_pick h
  | .dead, b, h => by cases h
/-- **a law by rules.** -/
theorem law_by {P : Program} (hm : P.follows .mixedOrders = true) {cf : Cf} (hcf : CfOk P cf) {fuel depth : Nat} {g : FuncId} (l : List (TypeId × List K1)) {xs : List Value} {W : World} (hA : ArgsRd P W l xs) (rules : List Rule)
    (hr : ∀ ρ : Env, factArgs l cn0 ρ → ∀ r ∈ rules, r.Ok ρ) (h : lawChk rules [] (resOk (exec P cf fuel depth g (patArgs P l cn0))) = true) : Calls P g xs.toArray W (fun e W' => e = .returned (.bool true) ∧ Below W.heap.size W W') := by
  obtain ⟨y, _, hy⟩ := args_ok l xs lt0 hA
  obtain ⟨h1, h2⟩ := hy (allFz y.env W) rfl y.env_agr
  obtain ⟨b, oks, hp, hb, ho⟩ := lawChk_ok (hr _ h2) (ρ := y.env) (fun p hp => by cases hp) h
  obtain ⟨⟨v, s⟩, hp', e⟩ := T.map_pick hp
  simp only [Prod.mk.injEq] at e
  obtain ⟨rfl, rfl⟩ := e
  exact (exec_ok hm hcf hp' ho).law hb W h1
end Go.Proofs.YtmckhoaekbeijaaGreat.E
/- A copy of a slice that may be nil: by what it is. Plain Lean over the kit's model; no program. -/
namespace Go.Proofs.YtmckhoaekbeijaaGreat.E
open Go Go.RowKit
set_option linter.unusedVariables false
/-- a contract for arguments of which something more is known. -/
structure SpecI (I : List Value → Prop) (P : Program) (ρ : Env) (f : FuncId) (args : List V) (n : Nat) (σ : Sto) (r : V) (n' : Nat) (σ' : Sto) : Prop where
  there : ∃ fn, P.funcs[f]? = some fn ∧ (fn.name == "runtime.NumGoroutine") = false ∧ fn.body.isNone = false
  calls : ∀ (β : Bt) (xs : List Value) (w : World), I xs → Sim ρ n β σ w → F2 (R β) args xs → Calls P f xs.toArray w (fun e w' => ∃ x β', e = .returned x ∧ R β' r x ∧ Sim ρ n' β' σ' w' ∧ Step n β σ w β' σ' w')
theorem SpecI.shut {I : List Value → Prop} {P : Program} {ρ : Env} {g : FuncId} {args : List V} {r r' : V} {n' k : Nat} {σ' : Sto} {D : List Nat} (h : SpecI I P ρ g args 0 no r n' σ') (ha : args.all V.closed = true) (hr : deepT (frz D σ') k r = some r') (m : Nat) : SpecI I P ρ g args m no r' m no := by
  refine ⟨h.there, fun β xs w hI hS hA => ?_⟩
  let β0 : Bt := ⟨β.g, fun _ => none⟩
  have nowr : ∀ (β : Bt) b, ¬ Wr β no b := fun β b ⟨_, _, _, e, _⟩ => by cases e
  have hS0 : Sim ρ 0 β0 no w := ⟨⟨hS.env, fun _ _ e => (by cases e), fun _ _ _ _ _ _ e => (by cases e), fun b cs hb => ⟨(hS.fzs b cs hb).1, nowr _ b, (hS.fzs b cs hb).2.2⟩, fun b c hb => ⟨(hS.kvs b c hb).1, nowr _ b⟩⟩, fun _ _ => rfl⟩
  refine (h.calls β0 xs w hI hS0 (F2.closed (β := β) (β' := β0) (Gm.le.refl _) ha hA)).mono ?_
  rintro e w' ⟨x, β1, he, hR, hS1, st⟩
  obtain ⟨β2, h1, h2, h3, h4, h5, h6⟩ := freeze_ok hS1 D
  have st2 := st.trans (h5 0)
  let β3 : Bt := ⟨β2.g, β.nm⟩
  refine ⟨x, β3, he, deepT_ok h4 rfl hr (hR.mono h3), ⟨⟨h4.env, fun _ _ e => (by cases e), fun _ _ _ _ _ _ e => (by cases e), fun b cs hb => ⟨(h4.fzs b cs hb).1, nowr _ b, (h4.fzs b cs hb).2.2⟩, fun b c hb => ⟨(h4.kvs b c hb).1, nowr _ b⟩⟩, hS.fresh⟩,
    ⟨⟨st2.le.g, fun id q _ hq => hq⟩, st2.os, st2.tape, st2.output, st2.size, fun b hb _ hk => st2.fr b hb (nowr _ b) hk, fun b hb => (nowr _ b hb).elim, fun b cs hb => ?_, fun b c hb => ?_⟩⟩
  · rcases st2.fzn b cs hb with h | h | h
    · exact .inl h
    · exact (nowr _ b h).elim
    · exact .inr (.inr h)
  · rcases st2.kvn b c hb with h | h | h
    · exact .inl h
    · exact (nowr _ b h).elim
    · exact .inr (.inr h)

/-! ### 'if b == nil { return nil }; ..' -/
structure CloneC where
  r0 : Code
  id : Nat
  o1 : Oper
  o2 : Oper
  A : Code
  B : Code
def CloneC.code (p : CloneC) : Code := .seq p.r0 (.seq (.seq (.region p.id [p.o1, p.o2].toArray false) (.cond (.tmp 4) p.A .skip)) p.B)
def cloneParts (c : Code) : Option CloneC := match c with
  | .seq r0 (.seq (.seq (.region id ⟨[o1, o2]⟩ false) (.cond (.tmp 4) A .skip)) B) => some ⟨r0, id, o1, o2, A, B⟩
  | _ => none
theorem cloneParts_ok {c : Code} {p : CloneC} (h : cloneParts c = some p) : c = p.code := by
  unfold cloneParts at h
  split at h
  · cases h; rfl
  · cases h
def cloneChk (P : Program) (p : CloneC) : Bool :=
  (match p.o1.op, p.o1.dst, p.o1.guard with | .move (.tmp 0), some 3, none => true | _, _, _ => false) &&
  (match p.o2.op, p.o2.dst, p.o2.guard with | .binOp .eql t (.tmp 3) (.const (.slice none 0 0)) _, some 4, none => (match P.underlying t with | some (.slice _) => true | _ => false) | _, _, _ => false)
def nonNil (xs : List Value) : Prop := ∃ a n c, xs = [.slice (some a) n c]
def cloneRun (P : Program) (fuel : Nat) (f : FuncId) (args : List V) : T (V × St) := match P.funcs[f]? with
  | some fn => match fn.body.bind cloneParts with
    | some p => if cloneChk P p && !((dsts p.r0).contains 0) && Nat.beq args.length 1 && Nat.blt 4 fn.ntmps && Nat.ble args.length fn.ntmps && !(fn.name == "runtime.NumGoroutine") then
        (dcode P noCalls noLoops fn.ntmps 0 [] fuel p.r0 ⟨putL .nil 0 args, 0, .nil, [], []⟩).bind fun q => match q.1 with
          | .normal => (dcode P noCalls noLoops fn.ntmps 0 [] fuel p.B ⟨setF (setF q.2.tr (some 3) (q.2.fr 0)) (some 4) (.bool (.lit false)), q.2.n, q.2.ob, q.2.ok, q.2.kn⟩).bind fun q2 => match q2.1 with
            | .exit _ => .dead
            | _ => match resV P fn.results.toList q2.2.fr q2.2.σ with
              | some r => .leaf (r, q2.2)
              | none => .dead
          | _ => .dead
      else .dead
    | none => .dead
  | none => .dead
theorem cloneRun_ok {P : Program} {ρ : Env} (hm : P.follows .mixedOrders = true) {fuel : Nat} {f : FuncId} {args : List V} {r : V} {s : St} (h : (cloneRun P fuel f args).pick ρ = some (r, s)) (hok : okOk ρ s.ok) : SpecI nonNil P ρ f args 0 no r s.n s.σ := by
  unfold cloneRun at h
  split at h
  · rename_i fn hf
    split at h
    · rename_i p hp
      split at h
      · rename_i hc
        simp only [Bool.and_eq_true, Bool.not_eq_true'] at hc
        obtain ⟨⟨⟨⟨⟨c1, c2⟩, c3⟩, c4⟩, c5⟩, c6⟩ := hc
        obtain ⟨c, hb, hp'⟩ := Option.bind_eq_some_iff.1 hp
        have hcode := cloneParts_ok hp'
        subst hcode
        have hnt : 4 < fn.ntmps := by have := Nat.le_of_ble_eq_true c4; omega
        have hl1 := Nat.eq_of_beq_eq_true c3
        obtain ⟨q, h1, h2⟩ := T.bind_some h
        obtain ⟨oo, s1⟩ := q
        simp only at h2
        split at h2
        · rename_i ho
          obtain ⟨q2, h3, h4⟩ := T.bind_some h2
          obtain ⟨o2', s2⟩ := q2
          simp only at h4
          obtain ⟨k1, k2, k3⟩ := dcode_ok hm (fun ρ => noCalls_ok P ρ) (fun ρ => noLoops_ok P ρ fn.ntmps (loopsIn p.r0)) fuel ρ 0 p.r0 _ _ s1 (fun a ha => ha) (Nat.zero_le _) (fun b hb => by cases hb) h1
          obtain ⟨j1, j2, j3⟩ := dcode_ok hm (fun ρ => noCalls_ok P ρ) (fun ρ => noLoops_ok P ρ fn.ntmps (loopsIn p.B)) fuel ρ 0 p.B ⟨setF (setF s1.tr (some 3) (s1.fr 0)) (some 4) (.bool (.lit false)), s1.n, s1.ob, s1.ok, s1.kn⟩ _ s2 (fun a ha => ha) (Nat.zero_le _) k1 h3
          have hfin : ∃ r', resV P fn.results.toList s2.fr s2.σ = some r' ∧ r' = r ∧ s2 = s ∧ (o2' = .normal ∨ o2' = .ret) := by
            split at h4
            · cases h4
            · rename_i hne
              split at h4
              · rename_i r' hr
                cases h4
                refine ⟨_, hr, rfl, rfl, ?_⟩
                cases o2' with
                | normal => exact .inl rfl
                | ret => exact .inr rfl
                | exit j => exact (hne _ rfl).elim
              · cases h4
          obtain ⟨r', hres, rfl, rfl, hout⟩ := hfin
          obtain ⟨t2, hok1, _⟩ := j3 hok
          obtain ⟨t1, _, _⟩ := k3 hok1
          refine ⟨⟨fn, hf, c6, by rw [hb]; rfl⟩, fun β xs w hI hS hA => calls_of_wp hf hb ?_⟩
          obtain ⟨ad, m, cp, rfl⟩ := hI
          -- slots at the beginning
          have hF0 : FrOk β (St.fr ⟨putL .nil 0 args, 0, .nil, [], []⟩) fn.ntmps { tmps := [Value.slice (some ad) m cp].toArray ++ Array.replicate (fn.ntmps - [Value.slice (some ad) m cp].toArray.size) undef, defers := [] } := by
            rw [show St.fr ⟨putL .nil 0 args, 0, .nil, [], []⟩ = fr0 args from putL_fm args]
            have hlen := hA.length
            refine ⟨fun t => ?_, by simp; omega, trivial⟩
            unfold fr0
            by_cases ht : t < args.length
            · have e1 : args.getD t .und = args[t] := by simp [List.getD, ht]
              have ht' : t < [Value.slice (some ad) m cp].length := by omega
              obtain ⟨x, hx, hR⟩ := hA.get t args[t] (by simp [ht])
              have e2 : ([Value.slice (some ad) m cp].toArray ++ Array.replicate (fn.ntmps - [Value.slice (some ad) m cp].toArray.size) undef).getD t undef = x := by
                have ht0 : t = 0 := by simp at ht'; exact ht'
                subst ht0
                simp at hx
                subst hx
                simp [Array.getElem?_append]
              rw [e1, e2]; exact hR
            · have e1 : args.getD t .und = .und := by simp [List.getD, List.getElem?_eq_none (Nat.le_of_not_lt ht)]
              rw [e1]; trivial
          have hx0 : ({ tmps := [Value.slice (some ad) m cp].toArray ++ Array.replicate (fn.ntmps - [Value.slice (some ad) m cp].toArray.size) undef, defers := [] } : Act).tmps.getD 0 undef = .slice (some ad) m cp := by simp [Array.getElem?_append]
          refine wp_seq (t1 β _ w _ hS hF0 fun β1 a1 w1 hS1 hF1 st1 kp1 => ?_)
          have hx1 : a1.tmps.getD 0 undef = .slice (some ad) m cp := (kp1.1 0 c2).trans hx0
          unfold cloneChk at c1
          simp only [Bool.and_eq_true] at c1
          obtain ⟨d1, d2⟩ := c1
          split at d1
          · rename_i e1 e2 e3
            split at d2
            · rename_i t tu f1 f2 f3
              split at d2
              · rename_i el hu
                show (Code.seq _ _).wp P _ a1 w1
                refine wp_seq (wp_seq (wp_region_lit (wpList_step fun K hK => ?_)))
                have w1' : Region.wanted p.o1 (yielded [p.o1, p.o2].toArray a1.tmps) = true := by unfold Region.wanted; rw [e3]
                rw [if_pos w1']
                refine wp_val (x := .slice (some ad) m cp) (by rw [← hx1]; unfold execOp; rw [e1]; rfl) (hK _ _ (wpList_step fun K2 hK2 => ?_))
                have hF2 : FrOk β1 (upd s1.fr p.o1.dst (s1.fr 0)) fn.ntmps (a1.put p.o1.dst (.slice (some ad) m cp)) := hF1.put (fun t ht => by rw [e2] at ht; cases ht; exact Nat.lt_trans (by decide) hnt) (by rw [← hx1]; exact hF1.1 0)
                have w2' : Region.wanted p.o2 (yielded [p.o1, p.o2].toArray (a1.put p.o1.dst (.slice (some ad) m cp)).tmps) = true := by unfold Region.wanted; rw [f3]
                rw [if_pos w2']
                have hv3 : (a1.put p.o1.dst (.slice (some ad) m cp)).eval (.tmp 3) = .slice (some ad) m cp := by
                  rw [e2]
                  show ((a1.tmps.set! 3 _).getD 3 undef) = _
                  have : 3 < a1.tmps.size := by rw [hF1.2.1]; omega
                  simp [this]
                refine wp_val (x := .bool false) (w' := w1) ?_ (hK2 _ _ (wpList_nil ?_))
                · unfold execOp
                  rw [f1]
                  have hg : (eqGuard .eql t (.tmp 3) (.const (.slice none 0 0)) (.slice (some ad) m cp) (.slice none 0 0)).run P w1 = .ok () w1 := rfl
                  have he := Lib.run_eql_slice_nil (P := P) w1 t el (some ad) m cp 0 0 hu
                  have hc0 : (a1.put p.o1.dst (.slice (some ad) m cp)).eval (.const (.slice none 0 0)) = .slice none 0 0 := rfl
                  simp only [hv3, hc0, Sem.run_bind, hg, Result.andThen_ok, he]
                  rfl
                · have hF3 : FrOk β1 (upd (upd s1.fr p.o1.dst (s1.fr 0)) p.o2.dst (.bool (.lit false))) fn.ntmps ((a1.put p.o1.dst (.slice (some ad) m cp)).put p.o2.dst (.bool false)) := hF2.put (fun t ht => by rw [f2] at ht; cases ht; exact hnt) (R.mkBool β1 rfl)
                  have hv4 : ((a1.put p.o1.dst (.slice (some ad) m cp)).put p.o2.dst (.bool false)).eval (.tmp 4) = .bool false := by
                    have := hF3.1 4
                    rw [f2] at this
                    have h4 : upd (upd s1.fr p.o1.dst (s1.fr 0)) (some 4) (.bool (.lit false)) 4 = .bool (.lit false) := by simp [upd]
                    rw [h4] at this
                    rw [f2]
                    exact R_bool this
                  refine wp_cond_false hv4 (wp_skip ?_)
                  show p.B.wp P _ _ w1
                  have hfr : St.fr ⟨setF (setF s1.tr (some 3) (s1.fr 0)) (some 4) (.bool (.lit false)), s1.n, s1.ob, s1.ok, s1.kn⟩ = upd (upd s1.fr p.o1.dst (s1.fr 0)) p.o2.dst (.bool (.lit false)) := by
                    rw [e2, f2]
                    show fmOf (setF (setF s1.tr (some 3) (s1.fr 0)) (some 4) (.bool (.lit false))) = _
                    rw [setF_fm, setF_fm]; rfl
                  rw [hfr] at t2
                  refine t2 β1 _ w1 _ hS1 hF3 fun β3 a3 w3 hS3 hF4 st3 kp3 => ?_
                  obtain ⟨x, hx, hR⟩ := run_results (P := P) hS3 hF4 hres
                  have hdf : a3.defers = [] := by rw [kp3.2]; show ((a1.put p.o1.dst _).put p.o2.dst _).defers = []; rw [e2, f2]; exact kp1.2
                  rcases hout with rfl | rfl
                  · exact ⟨hdf, x, hx, x, β3, rfl, hR, hS3, st1.trans st3⟩
                  · exact ⟨hdf, x, hx, x, β3, rfl, hR, hS3, st1.trans st3⟩
              · cases d2
            · cases d2
          · cases d1
        · cases h2
      · cases h
    · cases h
  · cases h
/-- what a copy is: nil of nil, else the same row in new memory. -/
def shutC (t : T (V × St)) : T (V × List B) := shutT t
theorem Con.clone {P : Program} (hm : P.follows .mixedOrders = true) {fuel fuel' depth : Nat} {cf : Cf} (hcf : CfOk P cf) {f : FuncId} {fs : List B} (h0 : shutT (exec P cf fuel' depth f [.sc (.slice none 0 0)]) = .leaf (.sc (.slice none 0 0), []))
    (h1 : shutT (cloneRun P fuel f [.fs 1 (.ints .u8 (.var 0))]) = .leaf (.fs 1 (.ints .u8 (.var 0)), fs)) : ConOk P ⟨f, [.fs 1 (.ints .u8 (.var 0))], .leaf (.fs 1 (.ints .u8 (.var 0)), fs)⟩ := by
  intro ρ r bs hp hok m
  cases hp
  have hnil := Con.ofExec hm hcf (fuel := fuel') (depth := depth) (args := [.sc (.slice none 0 0)]) rfl h0 ρ _ _ rfl (fun b hb => by cases hb) m
  have hcl : SpecI nonNil P ρ f [.fs 1 (.ints .u8 (.var 0))] m no (.fs 1 (.ints .u8 (.var 0))) m no := by
    have hp : (shutT (cloneRun P fuel f [.fs 1 (.ints .u8 (.var 0))])).pick ρ = some (.fs 1 (.ints .u8 (.var 0)), fs) := by rw [h1]; rfl
    unfold shutT at hp
    obtain ⟨q, g1, g2⟩ := T.bind_some hp
    obtain ⟨r0, s⟩ := q
    simp only at g2
    split at g2
    · rename_i r1 hr
      simp only [T.pick, Option.some.injEq, Prod.mk.injEq] at g2
      obtain ⟨rfl, rfl⟩ := g2
      exact (cloneRun_ok hm g1 hok).shut rfl hr m
    · cases g2
  refine ⟨hcl.there, fun β xs w hS hA => ?_⟩
  match xs, hA with
  | [x], hA =>
    have hF : F1 (.fs 1 (.ints .u8 (.var 0))) β.g x := hA.1
    obtain ⟨ys, n, c, a, e1, e2, e3, e4, e5⟩ := (by simpa only [F1] using hF)
    cases a with
    | some a => exact hcl.calls β [x] w ⟨a, n, c, by rw [e1]⟩ hS hA
    | none =>
      have hz : n = 0 ∧ c = 0 := by rcases e5 with h | ⟨b, d, h, _⟩; exact h; cases h
      have hx : x = .slice none 0 0 := by rw [e1, hz.1, hz.2]
      subst hx
      have hl : β.g.env.l 0 = [] := by
        have hy : ys = [] := List.eq_nil_of_length_eq_zero (by omega)
        rw [hy] at e4
        simpa only [Fr, L.den, List.nil_eq, List.map_eq_nil_iff] using e4
      refine (hnil.calls β [.slice none 0 0] w hS ⟨R0.toR (F1.up (v := .sc (.slice none 0 0)) (by unfold F1; exact ⟨rfl, rfl⟩)), trivial⟩).mono ?_
      rintro e w' ⟨y, β', he, hR, hS', st⟩
      refine ⟨y, β', he, ?_, hS', st⟩
      have hy : y = .slice none 0 0 := R_sc hR
      subst hy
      refine R0.toR (F1.up ?_)
      simp only [F1]
      refine ⟨[], 0, 0, none, rfl, rfl, Nat.le_refl _, ?_, .inl ⟨rfl, rfl⟩⟩
      have hg : β'.g.env = β.g.env := by rw [hS'.env, hS.env]
      simp only [Fr, L.den, hg, hl, List.map_nil]
  | [], hA => exact hA.elim
  | _ :: _ :: _, hA => exact hA.2.elim
end Go.Proofs.YtmckhoaekbeijaaGreat.E
/- Loops that begin with a row of nothing that stands in an object. Plain Lean over the kit's model; no program. -/
namespace Go.Proofs.YtmckhoaekbeijaaGreat.E
open Go Go.RowKit
set_option linter.unusedVariables false
/-- in other words, where things lie so. -/
def Sto.impB (β : Bt) (σ σ' : Sto) : Prop := ∀ id o', σ' id = some o' → ∃ o, σ id = some o ∧ o.rw = o'.rw ∧ o.e = o'.e ∧ ∀ xs, RH β o.row xs → RH β o'.row xs
theorem Wr.impB {β : Bt} {σ σ' : Sto} (h : Sto.impB β σ σ') {b : Nat} (hw : Wr β σ' b) : Wr β σ b := by
  obtain ⟨id, o, p, h1, h2, h3, h4⟩ := hw
  obtain ⟨o1, k1, k2, _⟩ := h id o h1
  exact ⟨id, o1, p, k1, k2.trans h2, h3, h4⟩
theorem Sim.impB {ρ : Env} {n : Nat} {β : Bt} {σ σ' : Sto} {w : World} (hS : Sim ρ n β σ w) (h : Sto.impB β σ σ') : Sim ρ n β σ' w := by
  refine ⟨⟨hS.env, fun id o e => ?_, fun id o id' o' p p' e hr e' hne hp hp' => ?_, fun b cs e => ⟨(hS.fzs b cs e).1, fun hc => (hS.fzs b cs e).2.1 (hc.impB h), (hS.fzs b cs e).2.2⟩, fun b c e => ⟨(hS.kvs b c e).1, fun hc => (hS.kvs b c e).2 (hc.impB h)⟩⟩, hS.fresh⟩
  · obtain ⟨o1, k1, k2, k3, k4⟩ := h id o e
    obtain ⟨q, l1, l2⟩ := hS.ob id o1 k1
    refine ⟨q, l1, ?_⟩
    cases q with
    | none => exact k4 [] l2
    | some p =>
      obtain ⟨m1, cur, xs, rest, fz, m2, m3, m4, m5, m6, m7⟩ := l2
      exact ⟨m1, cur, xs, rest, fz, by rw [← k3]; exact m2, m3, m4, k4 xs m5, fun hr => m6 (k2.trans hr), fun hr => m7 (k2.trans hr)⟩
  · obtain ⟨o1, k1, k2, _⟩ := h id o e
    obtain ⟨o2, l1, _⟩ := h id' o' e'
    exact hS.sep id o1 id' o2 p p' k1 (k2.trans hr) l1 hne hp hp'
theorem Step.impAtB {e : Nat} {β β' : Bt} {σ τ σ' : Sto} {w w' : World} (st : Step e β τ w β' σ' w') (h : Sto.impB β σ τ) : Step e β σ w β' σ' w' :=
  ⟨st.le, st.os, st.tape, st.output, st.size, fun b h1 h2 h3 => st.fr b h1 (fun hc => h2 (hc.impB h)) h3, fun b hb => (st.own b hb).imp_left (·.impB h), fun b cs hb => (st.fzn b cs hb).imp_right fun x => x.imp_left (·.impB h), fun b c hb => (st.kvn b c hb).imp_right fun x => x.imp_left (·.impB h)⟩
def nilV (n z : Nat) (v : V) : V := if isNilStart n z v then .sc (.slice none 0 0) else v
def nilRow (n z : Nat) : Row → Row
  | .any cs => .any (cs.map (nilV n z))
  | r => r
theorem nilV_R1 {β : Bt} {n z : Nat} (hn : β.nm n = some none) {v : V} {x : Value} (h : R1 β (nilV n z v) x) : R1 β v x := by
  unfold nilV at h
  split at h
  · rename_i hc
    rw [isNilStart_ok hc]
    have hx : x = .slice none 0 0 := R_sc (R1.up h).up
    rw [hx]
    exact ⟨none, hn, Int.le_refl _, .inr ⟨rfl, rfl, rfl, rfl, none, rfl⟩⟩
  · exact h
theorem nilRow_RH {β : Bt} {n z : Nat} (hn : β.nm n = some none) {r : Row} {xs : List Value} (h : RH β (nilRow n z r) xs) : RH β r xs := by
  cases r with
  | any cs =>
    have h : F2 (R1 β) (cs.map (nilV n z)) xs := h
    show F2 (R1 β) cs xs
    refine F2.of_get (by have := h.length; simpa using this) fun i v x hv hx => ?_
    obtain ⟨x', hx', hr⟩ := h.get i (nilV n z v) (by simp [hv])
    rw [hx] at hx'
    cases hx'
    exact nilV_R1 hn hr
  | _ => exact h
theorem TR.nilStartO {P : Program} {ρ : Env} {e nt k n n' : Nat} {c : Code} {fr fr' fr2 : Fm} {σ σ' σ2 : Sto} {o : Out} {z : Nat} {r : Row} {ty : TypeId} (he : e ≤ n) (hr : ∀ β : Bt, RH β r []) (hfr : ∀ t, fr t = nilV n z (fr2 t))
    (h0 : σ2 n = some ⟨r, true, ty⟩) (hob : ∀ id o2, id ≠ n → σ2 id = some o2 → ∃ o, σ id = some o ∧ o.rw = o2.rw ∧ o.e = o2.e ∧ o.row = nilRow n z o2.row)
    (hT : TR P ρ e nt c k fr2 (n + 1) σ2 o fr' n' σ') : TR P ρ e nt c k fr n σ o fr' n' σ' := by
  intro β a w Q hS hF hQ
  obtain ⟨β', hg, hn, hS', hst⟩ := new_in (w' := w) hS (Sto.le.refl σ) ty r none (fun β' _ => hr β') (fun p hp => by cases hp) (Nat.le_refl _) (fun b _ _ => rfl) rfl rfl rfl
  have hall := hS.all hst
  have himp : Sto.impB β' (σ.put n ⟨r, true, ty⟩) σ2 := by
    intro id o2 h2
    by_cases hid : id = n
    · subst hid
      rw [h0] at h2
      cases h2
      exact ⟨_, by simp [Sto.put], rfl, rfl, fun xs h => h⟩
    · obtain ⟨o1, g1, g2, g3, g4⟩ := hob id o2 hid h2
      exact ⟨o1, by simp [Sto.put, hid, g1], g2, g3, fun xs h => nilRow_RH hn (by rw [← g4]; exact h)⟩
  refine hT β' a w Q (hS'.impB himp) ⟨fun t => ?_, hF.2⟩ fun β2 a2 w2 hS2 hF2 st kp => hQ β2 a2 w2 hS2 hF2 ((hst.weaken he).trans (st.impAtB himp)) kp
  have h1 := hF.1 t
  rw [hfr t] at h1
  unfold nilV at h1
  split at h1
  · rename_i hc
    rw [isNilStart_ok hc, R_sc h1]
    exact ⟨none, hn, Int.le_refl _, .inr ⟨rfl, rfl, rfl, rfl, none, rfl⟩⟩
  · exact h1.mono hall
def nilFrO (H : LHead) (s : Sub) (z : Nat) : List (Nat × V) := H.fr.map fun p => (p.1, nilV H.n0 z (p.2.sub s))
def nilObO (n0 : Nat) (ob0 : List (Nat × Ob)) (s : Sub) (z : Nat) : List (Nat × Ob) := ob0.map fun p => (p.1, ⟨nilRow n0 z (p.2.row.sub s), p.2.rw, p.2.e⟩)
theorem fr_nil (n z : Nat) (s : Sub) : ∀ (l : List (Nat × V)) (t : Nat), fmOf (frOf (l.map fun p => (p.1, nilV n z (p.2.sub s)))) t = nilV n z (fmOf (frOf (l.map fun p => (p.1, p.2.sub s))) t)
  | [], t => rfl
  | p :: l, t => by
    have ih := fr_nil n z s l t
    unfold fmOf at ih ⊢
    rw [List.map_cons, List.map_cons, frOf, frOf, Tr.get_put, Tr.get_put]
    by_cases e : t = p.1
    · rw [if_pos e, if_pos e]
    · rw [if_neg e, if_neg e]; exact ih
theorem ob_nil {n z : Nat} {s : Sub} {id : Nat} {o2 : Ob} : ∀ {l : List (Nat × Ob)}, (obOf (l.map fun p => (p.1, p.2.sub s))).get id = some o2 → ∃ o, (obOf (nilObO n l s z)).get id = some o ∧ o.rw = o2.rw ∧ o.e = o2.e ∧ o.row = nilRow n z o2.row
  | [], h => by cases h
  | p :: l, h => by
    unfold nilObO
    rw [List.map_cons, obOf, Tr.get_put] at h ⊢
    by_cases e : id = p.1
    · rw [if_pos e] at h ⊢
      cases h
      exact ⟨_, rfl, rfl, rfl, rfl⟩
    · rw [if_neg e] at h ⊢
      exact ob_nil h
theorem LConOk.nilO {P : Program} {g id : Nat} {ds : List Nat} {fr0 : List (Nat × V)} {n0 : Nat} {pm : List Nat} {ob0 : List (Nat × Ob)} {o : Ob} {I : Env → Prop} {res : T LRes} (h : HeadOk P g id ⟨fr0, n0, pm, (n0, o) :: ob0⟩ I res) (s : Sub) (z : Nat) (hs : s.noix = true) (hds : dsOk P g id ds = true) (hn : allN n0 (T.sub s res) = true)
    (hok : nilOk ⟨fr0, n0, pm, (n0, o) :: ob0⟩ s o ob0 = true) (hI : ∀ ρ r, (T.sub s res).pick ρ = some r → okOk ρ r.ok → I (ρ.sub s)) : LConOk P ⟨g, id, ds, nilFrO ⟨fr0, n0, pm, (n0, o) :: ob0⟩ s z, n0, nilObO n0 ob0 s z, T.sub s res⟩ := by
  have hsn := Sub.noix_ok hs
  unfold dsOk at hds
  split at hds
  · rename_i nt a ha
    refine ⟨nt, a, ha, fun t ht => ?_, fun ρ r hp => ⟨allN_ok hn hp, fun hr => ?_⟩⟩
    · exact List.all_eq_true.1 hds t (by simpa using ht)
    · obtain ⟨r', h1, rfl⟩ := T.sub_pick hsn hp
      obtain ⟨k, hk⟩ := h nt a ha (ρ.sub s) r' (hI ρ _ hp hr) h1
      simp only [nilOk, Bool.and_eq_true] at hok
      obtain ⟨⟨⟨⟨q1, q2⟩, q3⟩, q4⟩, q5⟩ := hok
      have hpm : ∃ x, pm = [x] := by
        cases pm with
        | nil => cases q3
        | cons x l => cases l with
          | nil => exact ⟨x, rfl⟩
          | cons => cases q3
      obtain ⟨x, rfl⟩ := hpm
      have hk := hk.sub hsn
      rw [frOf_sub, obOf_sub, frOf_sub, obOf_sub] at hk
      refine ⟨k, TR.nilStartO (z := z) (r := o.row.sub s) (ty := o.e) (fr2 := fmOf (frOf (fr0.map fun p => (p.1, p.2.sub s)))) (Nat.le_refl _) (emptyRow_ok q1) (fun t => ?_) ?_ (fun id o2 hid h2 => ?_) hk⟩
      · show fmOf (frOf (fr0.map fun p => (p.1, nilV n0 z (p.2.sub s)))) t = _
        exact fr_nil n0 z s fr0 t
      · rw [List.map_cons, obOf, Tr.get_put, if_pos rfl]
        simp only [Ob.sub]; rw [q2]
      · rw [List.map_cons, obOf, Tr.get_put, if_neg hid] at h2
        exact ob_nil h2
  · cases hds
end Go.Proofs.YtmckhoaekbeijaaGreat.E
/- In other words, reckoned: which letters must mean the same. Plain Lean over the kit's model; no program. -/
namespace Go.Proofs.YtmckhoaekbeijaaGreat.E
open Go Go.RowKit
set_option linter.unusedVariables false
inductive Dif where
  | e (x y : E)
  | l (x y : L)
  | ll (x y : LL)
  | b (x y : B)
def Dif.Ok (ρ : Env) : Dif → Prop
  | .e x y => x.den ρ = y.den ρ
  | .l x y => x.den ρ = y.den ρ
  | .ll x y => x.den ρ = y.den ρ
  | .b x y => x.den ρ = y.den ρ
def DifOk (ρ : Env) (ds : List Dif) : Prop := ∀ d ∈ ds, d.Ok ρ
theorem DifOk.left {ρ : Env} {a b : List Dif} (h : DifOk ρ (a ++ b)) : DifOk ρ a := fun d hd => h d (List.mem_append_left _ hd)
theorem DifOk.right {ρ : Env} {a b : List Dif} (h : DifOk ρ (a ++ b)) : DifOk ρ b := fun d hd => h d (List.mem_append_right _ hd)
theorem DifOk.head {ρ : Env} {a : Dif} {b : List Dif} (h : DifOk ρ (a :: b)) : a.Ok ρ := h a (List.mem_cons_self ..)
theorem DifOk.tail {ρ : Env} {a : Dif} {b : List Dif} (h : DifOk ρ (a :: b)) : DifOk ρ b := fun d hd => h d (List.mem_cons_of_mem _ hd)
theorem DifOk.nil (ρ : Env) : DifOk ρ [] := fun d hd => by cases hd
theorem DifOk.cons {ρ : Env} {a : Dif} {b : List Dif} (h : a.Ok ρ) (k : DifOk ρ b) : DifOk ρ (a :: b) := fun d hd => by
  rcases List.mem_cons.1 hd with rfl | hd
  · exact h
  · exact k d hd
theorem F2.mono_one {r r' : V → Value → Prop} {a b : V} {xs : List Value} (h : F2 r [a] xs) (k : ∀ x, r a x → r' b x) : F2 r' [b] xs := by
  match xs, h with
  | [x], h => exact ⟨k x h.1, trivial⟩
  | [], h => exact h.elim
  | _ :: _ :: _, h => exact h.2.elim
/-- rows of records. -/
def recsDif (z : Nat) (n : E) (t : List V) (z' : Nat) (n' : E) (t' : List V) : Option (List Dif) := if Nat.beq z z' then match llOf z t, llOf z' t' with
  | some (.inl (k, ls)), some (.inl (k', ls')) => if Nat.beq (kN k) (kN k') && ls.nix && ls'.nix then some [.e n n', .ll ls ls'] else none
  | some (.inr (k, ls)), some (.inr (k', ls')) => if Nat.beq (kN k) (kN k') && ls.nix && ls'.nix then some [.e n n', .ll ls ls'] else none
  | _, _ => none else none
theorem recsDif_ok {ρ : Env} {z z' : Nat} {n n' : E} {t t' : List V} {ds : List Dif} (h : recsDif z n t z' n' t' = some ds) (hd : DifOk ρ ds) : z = z' ∧ ∀ (γ : Gm) (xs : List Value), γ.env = ρ → Fr (.recs z n t) γ xs → Fr (.recs z' n' t') γ xs := by
  unfold recsDif at h
  split at h
  case isFalse => cases h
  rename_i hz
  obtain rfl := Nat.eq_of_beq_eq_true hz
  refine ⟨rfl, fun γ xs hρ hF => ?_⟩
  split at h
  · rename_i k ls k' ls' e1 e2
    split at h
    · rename_i hc
      simp only [Bool.and_eq_true] at hc
      cases h
      obtain rfl := kN_inj hc.1.1
      have h1 : n.den ρ = n'.den ρ := hd.head
      have h2 : ls.den ρ = ls'.den ρ := hd.tail.head
      rw [llOf_inl e1] at hF
      rw [llOf_inl e2]
      simp only [Fr] at hF ⊢
      rw [hρ] at hF ⊢
      rw [← h1]
      refine ⟨hF.1, hF.2.1, fun i hi => ?_⟩
      rw [Fs_tI hc.2]
      have := (Fs_tI hc.1.2).1 (hF.2.2 i hi)
      rw [hρ] at this ⊢
      rw [this, h2]
    · cases h
  · rename_i k ls k' ls' e1 e2
    split at h
    · rename_i hc
      simp only [Bool.and_eq_true] at hc
      cases h
      obtain rfl := kN_inj hc.1.1
      have h1 : n.den ρ = n'.den ρ := hd.head
      have h2 : ls.den ρ = ls'.den ρ := hd.tail.head
      rw [llOf_inr e1] at hF
      rw [llOf_inr e2]
      simp only [Fr] at hF ⊢
      rw [hρ] at hF ⊢
      rw [← h1]
      refine ⟨hF.1, hF.2.1, fun i hi => ?_⟩
      have h3 := hF.2.2 i hi
      rw [Fs_iff] at h3 ⊢
      unfold tB at h3 ⊢
      refine F2.mono_one h3 fun x hx => ?_
      refine F1.ints_at rfl ?_ hx
      show (ls'.den (γ.env.at i)).getD _ [] = (ls.den (γ.env.at i)).getD _ []
      rw [hρ, LL.nix_den ρ i ls hc.1.2, LL.nix_den ρ i ls' hc.2, h2]
    · cases h
  · cases h
/-- one cell. -/
def V.dif1 (v u : V) : Option (List Dif) := if v.same u then some [] else match v, u with
  | _, .und => some []
  | .int k a, .int k' b => if Nat.beq (kN k) (kN k') then some [.e a b] else none
  | .bool a, .bool b => some [.b a b]
  | .str a, .str b => some [.l a b]
  | .fs z (.ints k a), .fs z' (.ints k' b) => if Nat.beq z z' && Nat.beq (kN k) (kN k') then some [.l a b] else none
  | .fs z (.recs z1 n t), .fs z' (.recs z2 n' t') => if Nat.beq z z' then recsDif z1 n t z2 n' t' else none
  | .sl id co off len z top, .sl id' co' off' len' z' top' => if Nat.beq id id' && Nat.beq co co' && Nat.beq z z' && bN top top' then some [.e off off', .e len len'] else none
  | .ptr id i z c, .ptr id' i' z' c' => if Nat.beq id id' && Nat.beq z z' && Nat.beq c c' then some [.e i i'] else none
  | .key c s, .key c' s' => if Nat.beq c c' then some [.e s s'] else none
  | .opt a v, .opt b u => if v.same u then some [.b a b] else none
  | _, _ => none
theorem V.dif1_ok {ρ : Env} {v u : V} {ds : List Dif} (h : v.dif1 u = some ds) (hd : DifOk ρ ds) : ∀ (β : Bt) (x : Value), β.g.env = ρ → R1 β v x → R1 β u x := by
  intro β x hβ hr
  unfold V.dif1 at h
  split at h
  · rename_i hs; rw [← V.same_ok hs]; exact hr
  · split at h
    · exact R1.one hr
    · rename_i k a k' b _
      split at h
      · rename_i hk
        cases h
        obtain rfl := kN_inj hk
        have e : a.den ρ = b.den ρ := hd.head
        have hr : F1 (.int k a) β.g x := hr
        show F1 (.int k b) β.g x
        simp only [F1] at hr ⊢
        rw [hr, hβ, e]
      · cases h
    · rename_i a b _
      cases h
      have e : a.den ρ = b.den ρ := hd.head
      have hr : F1 (.bool a) β.g x := hr
      show F1 (.bool b) β.g x
      simp only [F1] at hr ⊢
      rw [hr, hβ, e]
    · rename_i a b _
      cases h
      have e : a.den ρ = b.den ρ := hd.head
      have hr : F1 (.str a) β.g x := hr
      show F1 (.str b) β.g x
      simp only [F1] at hr ⊢
      rw [hr, hβ, e]
    · rename_i z k a z' k' b _
      split at h
      · rename_i hc
        simp only [Bool.and_eq_true] at hc
        cases h
        obtain rfl := Nat.eq_of_beq_eq_true hc.1
        obtain rfl := kN_inj hc.2
        have e : a.den ρ = b.den ρ := hd.head
        have hr : F1 (.fs z (.ints k a)) β.g x := hr
        show F1 (.fs z (.ints k b)) β.g x
        exact F1.ints_at rfl (by rw [hβ, e]) hr
      · cases h
    · rename_i z z1 n t z' z2 n' t' _
      split at h
      · rename_i hz
        obtain rfl := Nat.eq_of_beq_eq_true hz
        obtain ⟨_, g⟩ := recsDif_ok h hd
        have hr : F1 (.fs z (.recs z1 n t)) β.g x := hr
        show F1 (.fs z (.recs z2 n' t')) β.g x
        exact F1_fs_row (fun xs hF => g β.g xs hβ hF) hr
      · cases h
    · rename_i id co off len z top id' co' off' len' z' top' _
      split at h
      · rename_i hc
        simp only [Bool.and_eq_true] at hc
        cases h
        obtain rfl := Nat.eq_of_beq_eq_true hc.1.1.1
        obtain rfl := Nat.eq_of_beq_eq_true hc.1.1.2
        obtain rfl := Nat.eq_of_beq_eq_true hc.1.2
        obtain rfl := bN_inj hc.2
        have e1 : off.den ρ = off'.den ρ := hd.head
        have e2 : len.den ρ = len'.den ρ := hd.tail.head
        have hr : R0 β (.sl id co off len z top) x := hr
        show R0 β (.sl id co off' len' z top) x
        simp only [R0] at hr ⊢
        rw [hβ] at hr ⊢
        rw [← e1, ← e2]; exact hr
      · cases h
    · rename_i id i z c id' i' z' c' _
      split at h
      · rename_i hc
        simp only [Bool.and_eq_true] at hc
        cases h
        obtain rfl := Nat.eq_of_beq_eq_true hc.1.1
        obtain rfl := Nat.eq_of_beq_eq_true hc.1.2
        obtain rfl := Nat.eq_of_beq_eq_true hc.2
        have e1 : i.den ρ = i'.den ρ := hd.head
        have hr : R0 β (.ptr id i z c) x := hr
        show R0 β (.ptr id i' z c) x
        simp only [R0] at hr ⊢
        rw [hβ] at hr ⊢
        rw [← e1]; exact hr
      · cases h
    · rename_i c s c' s' _
      split at h
      · rename_i hc
        cases h
        obtain rfl := Nat.eq_of_beq_eq_true hc
        have e1 : s.den ρ = s'.den ρ := hd.head
        have hr : F1 (.key c s) β.g x := hr
        show F1 (.key c s') β.g x
        simp only [F1] at hr ⊢
        rw [hβ] at hr ⊢
        rw [← e1]; exact hr
      · cases h
    · rename_i a v b u _
      split at h
      · rename_i hs
        cases h
        obtain rfl := V.same_ok hs
        have e1 : a.den ρ = b.den ρ := hd.head
        have hr : F1 (.opt a v) β.g x := hr
        show F1 (.opt b v) β.g x
        simp only [F1] at hr ⊢
        rw [hβ] at hr ⊢
        rw [← e1]; exact hr
      · cases h
    · cases h
def difs (f : V → V → Option (List Dif)) : List V → List V → Option (List Dif)
  | [], [] => some []
  | v :: vs, u :: us => match f v u, difs f vs us with
    | some a, some b => some (a ++ b)
    | _, _ => none
  | _, _ => none
theorem difs_ok {ρ : Env} {f : V → V → Option (List Dif)} {r : Bt → V → Value → Prop} (hf : ∀ v u ds, f v u = some ds → DifOk ρ ds → ∀ (β : Bt) (x : Value), β.g.env = ρ → r β v x → r β u x) : ∀ {vs us : List V} {ds : List Dif}, difs f vs us = some ds → DifOk ρ ds → ∀ (β : Bt) (xs : List Value), β.g.env = ρ → F2 (r β) vs xs → F2 (r β) us xs
  | [], [], ds, h, hd, β, xs, hβ, hF => hF
  | [], _ :: _, ds, h, _, _, _, _, _ => by cases h
  | _ :: _, [], ds, h, _, _, _, _, _ => by cases h
  | v :: vs, u :: us, ds, h, hd, β, xs, hβ, hF => by
    unfold difs at h
    split at h
    · rename_i a b h1 h2
      cases h
      cases xs with
      | nil => exact hF.elim
      | cons x xs => exact ⟨hf v u a h1 hd.left β x hβ hF.1, difs_ok hf h2 hd.right β xs hβ hF.2⟩
    · cases h
def V.dif2 (v u : V) : Option (List Dif) := match v, u with
  | .agg as, .agg bs => difs V.dif1 as bs
  | v, u => if isAggV v || isAggV u then none else v.dif1 u
theorem V.dif2_ok {ρ : Env} {v u : V} {ds : List Dif} (h : v.dif2 u = some ds) (hd : DifOk ρ ds) : ∀ (β : Bt) (x : Value), β.g.env = ρ → R2 β v x → R2 β u x := by
  intro β x hβ hr
  unfold V.dif2 at h
  split at h
  · obtain ⟨xs, e, hF⟩ := hr
    exact ⟨xs, e, difs_ok (r := R1) (fun v u ds => V.dif1_ok) h hd β _ hβ hF⟩
  · split at h
    · cases h
    · rename_i hc
      simp only [Bool.or_eq_true, not_or, Bool.not_eq_true] at hc
      rw [R2_of1 hc.1] at hr
      rw [R2_of1 hc.2]
      exact V.dif1_ok h hd β x hβ hr
def V.dif3 (v u : V) : Option (List Dif) := match v, u with
  | _, .und => some []
  | .tup as, .tup bs => difs V.dif2 as bs
  | v, u => if isTupV v || isTupV u then none else v.dif2 u
theorem V.dif3_ok {ρ : Env} {v u : V} {ds : List Dif} (h : v.dif3 u = some ds) (hd : DifOk ρ ds) : V.imp ρ v u := by
  intro β x hβ hr
  unfold V.dif3 at h
  split at h
  · trivial
  · obtain ⟨xs, e, hF⟩ := hr
    exact ⟨xs, e, difs_ok (r := R2) (fun v u ds => V.dif2_ok) h hd β _ hβ hF⟩
  · split at h
    · cases h
    · rename_i hc
      simp only [Bool.or_eq_true, not_or, Bool.not_eq_true] at hc
      rw [R_of2 hc.1] at hr
      rw [R_of2 hc.2]
      exact V.dif2_ok h hd β x hβ hr
def Row.dif (r q : Row) : Option (List Dif) := if r.same q then some [] else match r, q with
  | .any as, .any bs => difs V.dif1 as bs
  | .ints k a, .ints k' b => if Nat.beq (kN k) (kN k') then some [.l a b] else none
  | .recs z n t, .recs z' n' t' => recsDif z n t z' n' t'
  | _, _ => none
theorem Row.dif_ok {ρ : Env} {r q : Row} {ds : List Dif} (h : r.dif q = some ds) (hd : DifOk ρ ds) : Row.imp ρ r q := by
  intro β xs hβ hr
  unfold Row.dif at h
  split at h
  · rename_i hs; rw [← Row.same_ok hs]; exact hr
  · split at h
    · exact difs_ok (r := R1) (fun v u ds => V.dif1_ok) h hd β xs hβ hr
    · rename_i k a k' b _
      split at h
      · rename_i hk
        cases h
        obtain rfl := kN_inj hk
        exact Row.imp.ints hd.head β xs hβ hr
      · cases h
    · exact (recsDif_ok h hd).2 β.g xs hβ hr
    · cases h
def frDif : List (Nat × V) → List (Nat × V) → Option (List Dif)
  | [], [] => some []
  | p :: l, q :: m => if Nat.beq p.1 q.1 then match p.2.dif3 q.2, frDif l m with
    | some a, some b => some (a ++ b)
    | _, _ => none else none
  | _, _ => none
theorem frDif_ok {ρ : Env} : ∀ {l m : List (Nat × V)} {ds : List Dif}, frDif l m = some ds → DifOk ρ ds → ImpFr ρ l m
  | [], [], _, _, _ => trivial
  | [], _ :: _, ds, h, _ => by cases h
  | _ :: _, [], ds, h, _ => by cases h
  | p :: l, q :: m, ds, h, hd => by
    unfold frDif at h
    split at h
    · rename_i hp
      split at h
      · rename_i a b h1 h2
        cases h
        exact ⟨Nat.eq_of_beq_eq_true hp, V.dif3_ok h1 hd.left, frDif_ok h2 hd.right⟩
      · cases h
    · cases h
def obDif : List (Nat × Ob) → List (Nat × Ob) → Option (List Dif)
  | [], [] => some []
  | p :: l, q :: m => if Nat.beq p.1 q.1 && bN p.2.rw q.2.rw && Nat.beq p.2.e q.2.e then match p.2.row.dif q.2.row, obDif l m with
    | some a, some b => some (a ++ b)
    | _, _ => none else none
  | _, _ => none
theorem obDif_ok {ρ : Env} : ∀ {l m : List (Nat × Ob)} {ds : List Dif}, obDif l m = some ds → DifOk ρ ds → ImpOb ρ l m
  | [], [], _, _, _ => trivial
  | [], _ :: _, ds, h, _ => by cases h
  | _ :: _, [], ds, h, _ => by cases h
  | p :: l, q :: m, ds, h, hd => by
    unfold obDif at h
    split at h
    · rename_i hp
      simp only [Bool.and_eq_true] at hp
      split at h
      · rename_i a b h1 h2
        cases h
        exact ⟨⟨Nat.eq_of_beq_eq_true hp.1.1, bN_inj hp.1.2, Nat.eq_of_beq_eq_true hp.2⟩, Row.dif_ok h1 hd.left, obDif_ok h2 hd.right⟩
      · cases h
    · cases h
end Go.Proofs.YtmckhoaekbeijaaGreat.E
/- Numbers as eight bytes, and back. Plain Lean; no program. -/
namespace Go.Proofs.YtmckhoaekbeijaaGreat.E
open Go RowKit
set_option linter.unusedVariables false
def Byts (l : List Int) : Prop := ∀ c ∈ l, 0 ≤ c ∧ c ≤ 255
theorem wrap64I (n : Int) : (9223372036854775808 ≤ n % 18446744073709551616 ∧ IntKind.i64.wrap n = n % 18446744073709551616 - 18446744073709551616) ∨ (n % 18446744073709551616 < 9223372036854775808 ∧ IntKind.i64.wrap n = n % 18446744073709551616) := by
  by_cases h : n % 18446744073709551616 ≥ 9223372036854775808
  · left
    refine ⟨h, ?_⟩
    simp only [IntKind.wrap, IntKind.signed, IntKind.bits, Bool.true_and]
    exact if_pos (decide_eq_true h)
  · right
    refine ⟨by omega, ?_⟩
    simp only [IntKind.wrap, IntKind.signed, IntKind.bits, Bool.true_and]
    exact if_neg (by simpa using h)
theorem wrap8I (n : Int) : IntKind.u8.wrap n = n % 256 := by
  simp [IntKind.wrap, IntKind.signed, IntKind.bits]
theorem numB_eq (n : Int) : numB n = [n / 72057594037927936 % 256, n / 281474976710656 % 256, n / 1099511627776 % 256, n / 4294967296 % 256, n / 16777216 % 256, n / 65536 % 256, n / 256 % 256, n % 256] := by
  have f : ∀ k : Nat, n.fdiv (2 ^ k) = n / 2 ^ k := fun k => Int.fdiv_eq_ediv_of_nonneg _ (Int.le_of_lt (Int.pow_pos (by decide)))
  simp only [numB, numM, List.map_cons, List.map_nil, wrap8I, f]
  simp
theorem numB_bytes (n : Int) : Byts (numB n) := by
  intro c hc
  rw [numB_eq] at hc
  simp only [List.mem_cons, List.not_mem_nil, or_false] at hc
  rcases hc with rfl | rfl | rfl | rfl | rfl | rfl | rfl | rfl <;> omega
theorem toNum_numB {n : Int} (h1 : -9223372036854775808 ≤ n) (h2 : n ≤ 9223372036854775807) : toNumI (numB n) = n := by
  rw [numB_eq, toNumI]
  simp only [wordI, List.foldl_cons, List.foldl_nil]
  rcases wrap64I ((((((((0 * 256 + n / 72057594037927936 % 256) * 256 + n / 281474976710656 % 256) * 256 + n / 1099511627776 % 256) * 256 + n / 4294967296 % 256) * 256 + n / 16777216 % 256) * 256 + n / 65536 % 256) * 256 + n / 256 % 256) * 256 + n % 256) with ⟨h, e⟩ | ⟨h, e⟩ <;> rw [e] <;> omega
theorem numB_toNum {l : List Int} (hl : l.length = 8) (hb : Byts l) : numB (toNumI l) = l := by
  match l, hl with
  | [a, b, c, d, e, f, g, h], _ =>
    have ha := hb a (by simp); have hb' := hb b (by simp); have hc := hb c (by simp); have hd := hb d (by simp)
    have he := hb e (by simp); have hf := hb f (by simp); have hg := hb g (by simp); have hh := hb h (by simp)
    rw [numB_eq, toNumI]
    simp only [wordI, List.foldl_cons, List.foldl_nil]
    simp only [List.cons.injEq, and_true]
    rcases wrap64I ((((((((0 * 256 + a) * 256 + b) * 256 + c) * 256 + d) * 256 + e) * 256 + f) * 256 + g) * 256 + h) with ⟨h0, e0⟩ | ⟨h0, e0⟩ <;> rw [e0] <;> refine ⟨?_, ?_, ?_, ?_, ?_, ?_, ?_, ?_⟩ <;> omega
end Go.Proofs.YtmckhoaekbeijaaGreat.E
/- Loops that read records, told. Plain Lean over the kit's model; no program. -/
namespace Go.Proofs.YtmckhoaekbeijaaGreat.E
open Go Go.RowKit
set_option linter.unusedVariables false
def Dif.same : Dif → Dif → Bool
  | .e x y, .e u v => x.same u && y.same v
  | .l x y, .l u v => x.same u && y.same v
  | .ll x y, .ll u v => x.same u && y.same v
  | .b x y, .b u v => x.same u && y.same v
  | _, _ => false
theorem Dif.same_ok {p q : Dif} (h : p.same q = true) : p = q := by
  unfold Dif.same at h
  split at h
  · simp only [Bool.and_eq_true] at h; rw [E.same_ok h.1, E.same_ok h.2]
  · simp only [Bool.and_eq_true] at h; rw [L.same_ok h.1, L.same_ok h.2]
  · simp only [Bool.and_eq_true] at h; rw [LL.same_ok h.1, LL.same_ok h.2]
  · simp only [Bool.and_eq_true] at h; rw [B.same_ok h.1, B.same_ok h.2]
  · cases h
def Dif.self : Dif → Bool
  | .e x y => x.same y
  | .l x y => x.same y
  | .ll x y => x.same y
  | .b x y => x.same y
theorem Dif.self_ok {ρ : Env} {d : Dif} (h : d.self = true) : d.Ok ρ := by
  cases d with
  | e x y => exact congrArg (·.den ρ) (E.same_ok h)
  | l x y => exact congrArg (·.den ρ) (L.same_ok h)
  | ll x y => exact congrArg (·.den ρ) (LL.same_ok h)
  | b x y => exact congrArg (·.den ρ) (B.same_ok h)
/-- all that must mean the same is among these. -/
def amongD (l : List Dif) : Option (List Dif) → Bool
  | some ds => ds.all fun d => d.self || l.any fun c => d.same c
  | none => false
theorem amongD_ok {l : List Dif} {o : Option (List Dif)} {ρ : Env} (h : amongD l o = true) (hl : DifOk ρ l) : ∃ ds, o = some ds ∧ DifOk ρ ds := by
  cases o with
  | none => cases h
  | some ds =>
    refine ⟨ds, rfl, fun d hd => ?_⟩
    unfold amongD at h
    rw [List.all_eq_true] at h
    have := h d hd
    rw [Bool.or_eq_true] at this
    rcases this with hs | this
    · exact Dif.self_ok hs
    rw [List.any_eq_true] at this
    obtain ⟨c, hc, hs⟩ := this
    rw [Dif.same_ok hs]; exact hl c hc
/-- a reader's state in one row: is it bad? what is left. -/
def hdB (S : L) : B := .eq (.get (.app 59 S .nil) (.lit 0)) (.lit 1)
def tlL (S : L) : L := .app 60 S .nil
theorem hdB_den (ρ : Env) (S : L) : (hdB S).den ρ = (rdS (S.den ρ)).1 := by
  show eqb ((S.den ρ).getD 0 0) 1 = ((S.den ρ).getD 0 0 == 1)
  rw [eqb_eq, Bool.beq_eq_decide_eq]
theorem tlL_den (ρ : Env) (S : L) : (tlL S).den ρ = (rdS (S.den ρ)).2 := rfl
theorem rdS_stS (s : Rd) : rdS (stS s) = s := by obtain ⟨b, l⟩ := s; cases b <;> rfl
theorem byt_id {l : List Int} (h : Byts l) : l.map byte = l := by
  conv => rhs; rw [← List.map_id l]
  exact List.map_congr_left fun c hc => by
    have := h c hc
    show ((UInt8.ofNat c.toNat).toNat : Int) = c
    rw [UInt8.toNat_ofNat']
    omega
def bytT (l : L) : B := .leq (.byt l) l
theorem bytT_den {ρ : Env} {l : L} : (bytT l).den ρ = true ↔ Byts (l.den ρ) := by
  constructor
  · intro h c hc
    have e : (l.den ρ).map byte = l.den ρ := of_decide_eq_true h
    rw [← e] at hc
    obtain ⟨y, _, rfl⟩ := List.mem_map.1 hc
    have : (UInt8.ofNat y.toNat).toNat < 256 := UInt8.toNat_lt _
    show 0 ≤ ((UInt8.ofNat y.toNat).toNat : Int) ∧ ((UInt8.ofNat y.toNat).toNat : Int) ≤ 255
    omega
  · intro h
    show decide ((l.den ρ).map byte = l.den ρ) = true
    rw [byt_id h]; simp
def smT (l : L) : B := .lt (.len l) (.lit 536870912)
theorem smT_den {ρ : Env} {l : L} : (smT l).den ρ = true ↔ (l.den ρ).length < 536870912 := by
  show ltb ((l.den ρ).length : Nat) 536870912 = true ↔ _
  rw [ltb_eq, decide_eq_true_eq]; omega
/-- reading: rows, one after the other. -/
structure RdF where
  f : Nat → Rd → List (List Int) × Rd
  row : Rd → List Int
  step : Rd → Rd
  zero : ∀ s, f 0 s = ([], s)
  byts : ∀ b l, Byts l → Byts (step (b, l)).2
  shr : ∀ s, (step s).2.length ≤ s.2.length
def rdDifs (b b' : B) (l l' : L) (ls ls' : LL) : List Dif := [.b b b', .l l l', .ll ls ls', .e (.cnt ls) (.cnt ls')]
theorem rdDifs_ok {ρ : Env} {b b' : B} {l l' : L} {ls ls' : LL} (h1 : b.den ρ = b'.den ρ) (h2 : l.den ρ = l'.den ρ) (h3 : ls.den ρ = ls'.den ρ) : DifOk ρ (rdDifs b b' l l' ls ls') :=
  .cons h1 (.cons h2 (.cons h3 (.cons (by show (((ls.den ρ).length : Nat) : Int) = ((ls'.den ρ).length : Nat); rw [h3]) (.nil ρ))))
def rdI (ρ : Env) : Prop := 0 ≤ ρ.e 0 ∧ ρ.e 0 ≤ ρ.e 1 ∧ ((ρ.ll 0).length : Nat) + (ρ.e 1 - ρ.e 0) < 1073741824 ∧ Byts (rdS (ρ.l 0)).2 ∧ ρ.e 1 < 1073741824 ∧ (rdS (ρ.l 0)).2.length < 536870912
def rdOk : List B := [.not (.lt (.var 0) (.lit 0)), .not (.lt (.var 1) (.var 0)), .lt (.bin .add .i64 (.cnt (.var 0)) (.bin .sub .i64 (.var 1) (.var 0))) (.lit 1073741824), .lt (.var 1) (.lit 1073741824), .lt (.cnt (.var 0)) (.lit 1073741824), bytT (tlL (.var 0)), smT (tlL (.var 0))]
/-- what a round puts for the letters. -/
structure RdSub (F : RdF) (s : Sub) : Prop where
  i : ∀ ρ : Env, (ρ.sub s).e 0 = binI .add .i64 (ρ.e 0) 1
  n : ∀ ρ : Env, (ρ.sub s).e 1 = ρ.e 1
  l : ∀ ρ : Env, rdS ((ρ.sub s).l 0) = F.step (rdS (ρ.l 0))
  ll : ∀ ρ : Env, (ρ.sub s).ll 0 = ρ.ll 0 ++ [F.row (rdS (ρ.l 0))]
/-- what the whole loop gives. -/
structure RdR (I : Env → Prop) (F : RdF) (k : Env → Nat) (rS : L) (rll : LL) : Prop where
  l : ∀ ρ : Env, I ρ → rdS (rS.den ρ) = (F.f (k ρ) (rdS (ρ.l 0))).2
  ll : ∀ ρ : Env, I ρ → rll.den ρ = ρ.ll 0 ++ (F.f (k ρ) (rdS (ρ.l 0))).1
theorem HeadOk.rd {P : Program} (hm : P.follows .mixedOrders = true) {cf : Cf} (hcf : CfOk P cf) {fuel depth g id : Nat} {H : LHead} {osl oob : List Nat} {n1 x : Nat} {s : Sub} {oks : List B} {fr : List (Nat × V)} {O0 O1 : List (Nat × Ob)} {rS : L} {rll : LL}
    (hr : roundH P cf fuel depth g id H [] osl oob = .br (.lt (.var 0) (.var 1)) (.leaf (.go s oks)) (.leaf (.out ⟨.exit x, fr, n1, O0, []⟩)))
    (F : RdF) (hf : ∀ k s, F.f (k + 1) s = (F.row s :: (F.f k (F.step s)).1, (F.f k (F.step s)).2)) (hS : RdSub F s) (hR : RdR rdI F (fun ρ => (ρ.e 1 - ρ.e 0).toNat) rS rll)
    (hfr : subFr s fr = fr) (hgo : amongD (rdDifs ((hdB rS).sub s) (hdB rS) ((tlL rS).sub' s) (tlL rS) (rll.sub s) rll) (obDif (subOb s O1) O1) = true) (hout : amongD (rdDifs (hdB (.var 0)) (hdB rS) (tlL (.var 0)) (tlL rS) (.var 0) rll) (obDif O0 O1) = true)
    (hok : ∀ ρ : Env, rdI ρ → ρ.e 0 < ρ.e 1 → okOk ρ oks) : HeadOk P g id H rdI (.leaf ⟨.exit x, fr, n1, O1, rdOk⟩) := by
  refine HeadOk.of hm hcf hr rdI (fun ρ => (ρ.e 1 - ρ.e 0).toNat) _ (fun ρ _ x hx => by cases hx) fun ρ r hI hp => ?_
  cases hp
  have hI0 := hI
  obtain ⟨h1, h2, h3, h4, h5, h6⟩ := hI
  simp only [T.pick]
  have hb : (B.lt (.var 0) (.var 1)).den ρ = ltb (ρ.e 0) (ρ.e 1) := rfl
  rw [hb]
  cases hc : ltb (ρ.e 0) (ρ.e 1) with
  | true =>
    have hlt := ltb_ok hc
    refine ⟨_, rfl, hok ρ hI0 hlt, fun hs => ?_⟩
    have e0 : (ρ.sub s).e 0 = ρ.e 0 + 1 := by rw [hS.i]; exact add1 h1 hlt (by omega)
    have e1 := hS.n ρ
    have hk : (ρ.e 1 - ρ.e 0).toNat = ((ρ.sub s).e 1 - (ρ.sub s).e 0).toNat + 1 := by rw [e0, e1]; omega
    have hst : F.f (ρ.e 1 - ρ.e 0).toNat (rdS (ρ.l 0)) = (F.row (rdS (ρ.l 0)) :: (F.f ((ρ.sub s).e 1 - (ρ.sub s).e 0).toNat (rdS ((ρ.sub s).l 0))).1, (F.f ((ρ.sub s).e 1 - (ρ.sub s).e 0).toNat (rdS ((ρ.sub s).l 0))).2) := by
      rw [hk, hf, hS.l]
    have hI2 : rdI (ρ.sub s) := by
      refine ⟨by rw [e0]; omega, by rw [e0, e1]; omega, ?_, ?_, by rw [e1]; exact h5, ?_⟩
      · rw [e0, e1, hS.ll, List.length_append]; simp; omega
      · rw [hS.l]; exact F.byts _ _ h4
      · rw [hS.l]; exact Nat.lt_of_le_of_lt (F.shr _) h6
    refine ⟨hI2, by omega, _, rfl, ?_⟩
    obtain ⟨ds, hds, hdo⟩ := amongD_ok (ρ := ρ) hgo (rdDifs_ok (by rw [B.sub_den hs, hdB_den, hdB_den, hR.l _ hI2, hR.l _ hI0, hst]) (by rw [L.sub_den hs, tlL_den, tlL_den, hR.l _ hI2, hR.l _ hI0, hst]) (by rw [LL.sub_den hs, hR.ll _ hI2, hR.ll _ hI0, hst, hS.ll]; simp))
    unfold LRes.subst
    have e3 : fr.map (fun p => (p.1, p.2.sub s)) = fr := hfr
    simp only
    rw [e3]
    exact LRes.mk_imp (ImpFr.refl _ _) (obDif_ok hds hdo)
  | false =>
    have hge := ltb_no hc
    have hz : (ρ.e 1 - ρ.e 0).toNat = 0 := by omega
    obtain ⟨ds, hds, hdo⟩ := amongD_ok (ρ := ρ) hout (rdDifs_ok (by rw [hdB_den, hdB_den, hR.l _ hI0, hz, F.zero]; rfl) (by rw [tlL_den, tlL_den, hR.l _ hI0, hz, F.zero]; rfl) (by rw [hR.ll _ hI0, hz, F.zero]; simp [LL.den]))
    exact ⟨_, rfl, fun b hb => (by cases hb), LRes.mk_imp (ImpFr.refl _ _) (obDif_ok hds hdo), by simp⟩
theorem rdI_of {ρ : Env} (h : okOk ρ rdOk) : rdI ρ := by
  have g1 := h _ (List.mem_cons_self ..)
  have g2 := h _ (List.mem_cons_of_mem _ (List.mem_cons_self ..))
  have g3 := h _ (List.mem_cons_of_mem _ (List.mem_cons_of_mem _ (List.mem_cons_self ..)))
  have g4 := h _ (List.mem_cons_of_mem _ (List.mem_cons_of_mem _ (List.mem_cons_of_mem _ (List.mem_cons_self ..))))
  have g5 := h _ (List.mem_cons_of_mem _ (List.mem_cons_of_mem _ (List.mem_cons_of_mem _ (List.mem_cons_of_mem _ (List.mem_cons_self ..)))))
  have g6 := h _ (List.mem_cons_of_mem _ (List.mem_cons_of_mem _ (List.mem_cons_of_mem _ (List.mem_cons_of_mem _ (List.mem_cons_of_mem _ (List.mem_cons_self ..))))))
  simp only [B.den, E.den, LL.den, ltb_eq, Bool.not_eq_true', decide_eq_false_iff_not, decide_eq_true_eq, Int.not_lt] at g1 g2 g3 g4 g5
  have hs : binI .sub .i64 (ρ.e 1) (ρ.e 0) = ρ.e 1 - ρ.e 0 := wrap_id .i64 _ (by show (-9223372036854775808 : Int) ≤ _; omega) (by show _ ≤ (9223372036854775807 : Int); omega)
  rw [hs] at g3
  have ha : binI .add .i64 (((ρ.ll 0).length : Nat) : Int) (ρ.e 1 - ρ.e 0) = ((ρ.ll 0).length : Nat) + (ρ.e 1 - ρ.e 0) := wrap_id .i64 _ (by show (-9223372036854775808 : Int) ≤ _; omega) (by show _ ≤ (9223372036854775807 : Int); omega)
  rw [ha] at g3
  have g7 := h _ (List.mem_cons_of_mem _ (List.mem_cons_of_mem _ (List.mem_cons_of_mem _ (List.mem_cons_of_mem _ (List.mem_cons_of_mem _ (List.mem_cons_of_mem _ (List.mem_cons_self ..)))))))
  exact ⟨g1, g2, g3, bytT_den.1 g6, g4, smT_den.1 g7⟩
/-! ### till it is bad, the number going down -/
def crI (ρ : Env) : Prop := (Byts (rdS (ρ.l 0)).2 ∧ (rdS (ρ.l 0)).2.length < 536870912 ∧ ρ.e 0 ≤ 9223372036854775807) ∧ ((ρ.ll 0).length + (rdS (ρ.l 0)).2.length + 1 < 1073741824 ∨ ((rdS (ρ.l 0)).1 = true ∧ (ρ.ll 0).length < 1073741824))
def crOk : List B := [.lt (.len (tlL (.var 0))) (.lit 536870912), .lt (.cnt (.var 0)) (.lit 536870911), bytT (tlL (.var 0)), .not (.lt (.lit 9223372036854775807) (.var 0))]
theorem crI_of {ρ : Env} (h : okOk ρ crOk) : crI ρ := by
  have g1 := h _ (List.mem_cons_self ..)
  have g2 := h _ (List.mem_cons_of_mem _ (List.mem_cons_self ..))
  have g3 := h _ (List.mem_cons_of_mem _ (List.mem_cons_of_mem _ (List.mem_cons_self ..)))
  have g1 : ltb (((rdS (ρ.l 0)).2.length : Nat) : Int) 536870912 = true := g1
  have g2 : ltb (((ρ.ll 0).length : Nat) : Int) 536870911 = true := g2
  rw [ltb_eq, decide_eq_true_eq] at g1 g2
  have g4 := h _ (List.mem_cons_of_mem _ (List.mem_cons_of_mem _ (List.mem_cons_of_mem _ (List.mem_cons_self ..))))
  have g4 : (!(ltb 9223372036854775807 (ρ.e 0))) = true := g4
  simp only [ltb_eq, Bool.not_eq_true', decide_eq_false_iff_not, Int.not_lt] at g4
  exact ⟨⟨bytT_den.1 g3, by omega, g4⟩, .inl (by omega)⟩
structure CrSub (F : RdF) (s : Sub) : Prop where
  n : ∀ ρ : Env, (ρ.sub s).e 0 = binI .sub .i64 (ρ.e 0) 1
  l : ∀ ρ : Env, rdS ((ρ.sub s).l 0) = F.step (rdS (ρ.l 0))
  ll : ∀ ρ : Env, (ρ.sub s).ll 0 = ρ.ll 0 ++ [F.row (rdS (ρ.l 0))]
theorem HeadOk.cr {P : Program} (hm : P.follows .mixedOrders = true) {cf : Cf} (hcf : CfOk P cf) {fuel depth g id : Nat} {H : LHead} {osl oob : List Nat} {n1 x : Nat} {s : Sub} {oks oka : List B} {fr : List (Nat × V)} {O0 O1 : List (Nat × Ob)} {rS : L} {rll : LL}
    (hr : roundH P cf fuel depth g id H [] osl oob = .br (.lt (.lit 0) (.var 0)) (.br (hdB (.var 0)) (.leaf (.out ⟨.exit x, fr, n1, O0, oka⟩)) (.leaf (.go s oks))) (.leaf (.out ⟨.exit x, fr, n1, O0, []⟩)))
    (F : RdF) (hf : ∀ k s, F.f (k + 1) s = bif s.1 then ([], s) else (F.row s :: (F.f k (F.step s)).1, (F.f k (F.step s)).2)) (hless : ∀ l, Byts l → (F.step (false, l)).1 = true ∨ (F.step (false, l)).2.length < l.length)
    (hS : CrSub F s) (hR : RdR crI F (fun ρ => (ρ.e 0).toNat) rS rll)
    (hfr : subFr s fr = fr) (hgo : amongD (rdDifs ((hdB rS).sub s) (hdB rS) ((tlL rS).sub' s) (tlL rS) (rll.sub s) rll) (obDif (subOb s O1) O1) = true) (hout : amongD (rdDifs (hdB (.var 0)) (hdB rS) (tlL (.var 0)) (tlL rS) (.var 0) rll) (obDif O0 O1) = true)
    (hoka : ∀ ρ : Env, crI ρ → okOk ρ oka) (hok : ∀ ρ : Env, crI ρ → (rdS (ρ.l 0)).1 = false → okOk ρ oks) : HeadOk P g id H crI (.leaf ⟨.exit x, fr, n1, O1, crOk⟩) := by
  refine HeadOk.of hm hcf hr crI (fun ρ => (ρ.e 0).toNat) _ (fun ρ _ x hx => by cases hx) fun ρ r hI hp => ?_
  cases hp
  have hI0 := hI
  obtain ⟨h1, h2⟩ := hI
  simp only [T.pick]
  have hb : (B.lt (.lit 0) (.var 0)).den ρ = ltb 0 (ρ.e 0) := rfl
  have hb2 : (hdB (.var 0)).den ρ = (rdS (ρ.l 0)).1 := hdB_den ρ (.var 0)
  rw [hb]
  have out : F.f (ρ.e 0).toNat (rdS (ρ.l 0)) = ([], rdS (ρ.l 0)) → LRes.imp ρ ⟨.exit x, fr, n1, O0, []⟩ ⟨.exit x, fr, n1, O1, crOk⟩ := fun hz => by
    obtain ⟨ds, hds, hdo⟩ := amongD_ok (ρ := ρ) hout (rdDifs_ok (by rw [hdB_den, hdB_den, hR.l _ hI0, hz]; rfl) (by rw [tlL_den, tlL_den, hR.l _ hI0, hz]; rfl) (by rw [hR.ll _ hI0, hz]; simp [LL.den]))
    exact LRes.mk_imp (ImpFr.refl _ _) (obDif_ok hds hdo)
  cases hc : ltb 0 (ρ.e 0) with
  | true =>
    have hlt := ltb_ok hc
    have hk0 : (ρ.e 0).toNat = ((ρ.e 0).toNat - 1) + 1 := by omega
    simp only [cond_true, hb2]
    cases hbad : (rdS (ρ.l 0)).1 with
    | true =>
      have hz : F.f (ρ.e 0).toNat (rdS (ρ.l 0)) = ([], rdS (ρ.l 0)) := by rw [hk0, hf, hbad]; rfl
      have := out hz
      exact ⟨_, rfl, hoka ρ hI0, ⟨this.o, this.n, this.fr, this.ob⟩, by simp⟩
    | false =>
      refine ⟨_, rfl, hok ρ hI0 hbad, fun hs => ?_⟩
      have e0 : (ρ.sub s).e 0 = ρ.e 0 - 1 := by
        rw [hS.n]
        exact wrap_id .i64 _ (by show (-9223372036854775808 : Int) ≤ ρ.e 0 - 1; omega) (by show ρ.e 0 - 1 ≤ (9223372036854775807 : Int); have := h1.2.2; omega)
      have hk : (ρ.e 0).toNat = ((ρ.sub s).e 0).toNat + 1 := by rw [e0]; omega
      have hst : F.f (ρ.e 0).toNat (rdS (ρ.l 0)) = (F.row (rdS (ρ.l 0)) :: (F.f ((ρ.sub s).e 0).toNat (rdS ((ρ.sub s).l 0))).1, (F.f ((ρ.sub s).e 0).toNat (rdS ((ρ.sub s).l 0))).2) := by
        rw [hk, hf, hS.l, hbad]; rfl
      have hrd : rdS (ρ.l 0) = (false, (rdS (ρ.l 0)).2) := by rw [← hbad]
      have hI2 : crI (ρ.sub s) := by
        refine ⟨⟨by rw [hS.l]; exact F.byts _ _ h1.1, by rw [hS.l]; exact Nat.lt_of_le_of_lt (F.shr _) h1.2.1, by rw [e0]; have := h1.2.2; omega⟩, ?_⟩
        have hl := hless (rdS (ρ.l 0)).2 h1.1
        rw [← hrd] at hl
        rw [hS.l, hS.ll, List.length_append]
        simp only [List.length_cons, List.length_nil]
        rcases h2 with h2 | h2
        · rcases hl with hl | hl
          · exact .inr ⟨hl, by omega⟩
          · exact .inl (by omega)
        · rw [hbad] at h2; cases h2.1
      refine ⟨hI2, by omega, _, rfl, ?_⟩
      obtain ⟨ds, hds, hdo⟩ := amongD_ok (ρ := ρ) hgo (rdDifs_ok (by rw [B.sub_den hs, hdB_den, hdB_den, hR.l _ hI2, hR.l _ hI0, hst]) (by rw [L.sub_den hs, tlL_den, tlL_den, hR.l _ hI2, hR.l _ hI0, hst]) (by rw [LL.sub_den hs, hR.ll _ hI2, hR.ll _ hI0, hst, hS.ll]; simp))
      unfold LRes.subst
      have e3 : fr.map (fun p => (p.1, p.2.sub s)) = fr := hfr
      simp only
      rw [e3]
      exact LRes.mk_imp (ImpFr.refl _ _) (obDif_ok hds hdo)
  | false =>
    have hge := ltb_no hc
    have hz : (ρ.e 0).toNat = 0 := by omega
    exact ⟨_, rfl, fun b hb => (by cases hb), out (by rw [hz, F.zero]), by simp⟩
/-- what a loop asks of the letters at its start. -/
theorem okOk.start {ρ : Env} {s : Sub} (hs : s.noix = true) {oks : List B} {o : Out} {fr : List (Nat × V)} {n : Nat} {ob : List (Nat × Ob)} {r : LRes} (hp : (T.sub s (.leaf ⟨o, fr, n, ob, oks⟩)).pick ρ = some r) (hok : okOk ρ r.ok) : okOk (ρ.sub s) oks := by
  cases hp
  intro b' hb
  rw [← B.sub_den (Sub.noix_ok hs)]
  exact hok _ (List.mem_map.2 ⟨b', hb, rfl⟩)
end Go.Proofs.YtmckhoaekbeijaaGreat.E
/- Contracts with one good end, what is asked shown by rules. Plain Lean over the kit's model; no program. -/
namespace Go.Proofs.YtmckhoaekbeijaaGreat.E
open Go Go.RowKit
set_option linter.unusedVariables false
def okChk (rules : List Rule) : List (B × Bool) → T FRes → Bool
  | kn, .leaf q => q.ok.all (derB rules kn)
  | kn, .br c l r => bif derB rules kn c then okChk rules kn l else bif derB rules kn (.not c) then okChk rules kn r else
    okChk rules ((c, true) :: (partsB c ++ kn)) l && okChk rules ((c, false) :: kn) r
  | _, .dead => true
theorem okChk_ok {ρ : Env} {rules : List Rule} (hr : ∀ r ∈ rules, r.Ok ρ) : ∀ {t : T FRes} {kn : List (B × Bool)} {q : FRes}, holdAll ρ kn → okChk rules kn t = true → t.pick ρ = some q → okOk ρ q.ok
  | .leaf q, kn, q', hk, h, hp => by
    cases hp
    unfold okChk at h
    rw [List.all_eq_true] at h
    exact fun b hb => derB_ok hr hk (h b hb)
  | .dead, kn, q', hk, h, hp => by cases hp
  | .br c l r, kn, q', hk, h, hp => by
    unfold okChk at h
    simp only [T.pick] at hp
    cases h1 : derB rules kn c with
    | true =>
      rw [h1, cond_true] at h
      rw [derB_ok hr hk h1] at hp
      exact okChk_ok hr hk h hp
    | false =>
      rw [h1, cond_false] at h
      cases h2 : derB rules kn (.not c) with
      | true =>
        rw [h2, cond_true] at h
        have hc : c.den ρ = false := by
          have := derB_ok hr hk h2
          simpa [B.den] using this
        rw [hc] at hp
        exact okChk_ok hr hk h hp
      | false =>
        rw [h2, cond_false, Bool.and_eq_true] at h
        cases hc : c.den ρ with
        | true =>
          rw [hc] at hp
          refine okChk_ok hr (fun p hm => ?_) h.1 hp
          rcases List.mem_cons.1 hm with rfl | hm
          · exact hc
          · rcases List.mem_append.1 hm with hm | hm
            · exact partsB_ok hc p hm
            · exact hk p hm
        | false =>
          rw [hc] at hp
          refine okChk_ok hr (fun p hm => ?_) h.2 hp
          rcases List.mem_cons.1 hm with rfl | hm
          · exact hc
          · exact hk p hm
def plainR (t : T FRes) : T V := t.bind fun q => bif Nat.beq q.n 0 && q.ob.isEmpty then .leaf q.r else .dead
theorem plainR_ok {ρ : Env} : ∀ {t : T FRes} {v : V}, (plainR t).pick ρ = some v → ∃ q, t.pick ρ = some q ∧ q.r = v ∧ q.n = 0 ∧ q.ob = []
  | t, v, h => by
    obtain ⟨q, h1, h2⟩ := T.bind_some h
    refine ⟨q, h1, ?_⟩
    cases hc : Nat.beq q.n 0 && q.ob.isEmpty with
    | false => rw [hc] at h2; cases h2
    | true =>
      rw [hc] at h2
      cases h2
      simp only [Bool.and_eq_true] at hc
      exact ⟨rfl, Nat.eq_of_beq_eq_true hc.1, List.isEmpty_iff.1 hc.2⟩
theorem FCon.ofLad {P : Program} {g : FuncId} {args : List V} {t : T FRes} (h : FConOk P ⟨g, args, 0, [], t⟩) {cs : List (B × Bool)} {gv zero v' : V} {okD : B} {pre : List B} (hl : lad (fun v => v.same zero) (plainR t) = some (cs, gv)) (rules : List Rule) (hc : okChk rules [] t = true)
    (hr : ∀ ρ, okOk ρ pre → (∀ r ∈ rules, r.Ok ρ) ∧ (holdAll ρ cs ↔ okD.den ρ = true) ∧ (holdAll ρ cs → V.imp ρ gv v')) : FConOk P ⟨g, args, 0, [], .br okD (.leaf ⟨v', 0, [], pre⟩) (.leaf ⟨zero, 0, [], pre⟩)⟩ := by
  refine FCon.alt h fun ρ q' hp hq => ?_
  have hpre : okOk ρ pre := by
    simp only [T.pick] at hp
    revert hp hq
    cases okD.den ρ <;> (intro hp hq; cases hp; exact hq)
  obtain ⟨r1, r2, r3⟩ := hr ρ hpre
  obtain ⟨l1, l2⟩ := lad_ok (ρ := ρ) hl
  simp only [T.pick] at hp
  by_cases hh : holdAll ρ cs
  · rw [r2.1 hh] at hp
    cases hp
    obtain ⟨q, g1, rfl, g2, g3⟩ := plainR_ok (l1 hh)
    refine ⟨q, g1, okChk_ok r1 (fun p hp => by cases hp) hc g1, r3 hh, g2, ?_⟩
    rw [g3]
    exact ImpOb.ok trivial
  · have hf : okD.den ρ = false := by
      cases hd : okD.den ρ with
      | true => exact (hh (r2.2 hd)).elim
      | false => rfl
    rw [hf] at hp
    cases hp
    obtain ⟨v, k1, k2⟩ := l2 hh
    obtain ⟨q, g1, rfl, g2, g3⟩ := plainR_ok k1
    refine ⟨q, g1, okChk_ok r1 (fun p hp => by cases hp) hc g1, ?_, g2, ?_⟩
    · rw [V.same_ok k2]; exact V.imp.refl _ _
    · rw [g3]
      exact ImpOb.ok trivial
/-- a contract that touches no objects. -/
def conT (t : T FRes) : T (V × List B) := t.bind fun q => bif Nat.beq q.n 0 && q.ob.isEmpty && (match deepT (frz [] no) 2000 q.r with | some r => r.same q.r | none => false) then .leaf (q.r, q.ok) else .dead
theorem ConOk.ofF {P : Program} {g : FuncId} {args : List V} {t : T FRes} (h : FConOk P ⟨g, args, 0, [], t⟩) (ha : args.all V.closed = true) : ConOk P ⟨g, args, conT t⟩ := by
  intro ρ r bs hp hb m
  obtain ⟨q, h1, h2⟩ := T.bind_some hp
  cases hc : (Nat.beq q.n 0 && q.ob.isEmpty && (match deepT (frz [] no) 2000 q.r with | some r => r.same q.r | none => false)) with
  | false => rw [hc] at h2; cases h2
  | true =>
    rw [hc] at h2
    cases h2
    simp only [Bool.and_eq_true] at hc
    obtain ⟨⟨c1, c2⟩, c3⟩ := hc
    have hs := h ρ q h1 hb
    split at c3
    · rename_i r hr
      have e := V.same_ok c3
      rw [Nat.eq_of_beq_eq_true c1, List.isEmpty_iff.1 c2] at hs
      subst e
      exact Spec.shut (σ' := no) (D := []) hs ha hr m
    · cases c3
end Go.Proofs.YtmckhoaekbeijaaGreat.E
/- A nil result as an own row that is empty. Plain Lean over the kit's model; no program. -/
namespace Go.Proofs.YtmckhoaekbeijaaGreat.E
open Go Go.RowKit
set_option linter.unusedVariables false
theorem Spec.nilNew {P : Program} {ρ : Env} {g : FuncId} {args : List V} {k n' : Nat} {σ : Sto} {ob : List (Nat × Ob)} {l : L} {kd : IntKind} {ty : TypeId} (h : Spec P ρ g args k σ (.sc (.slice none 0 0)) n' (obOf ob).get) (hl : l.den ρ = []) :
    Spec P ρ g args k σ (.sl n' 0 (.lit 0) (.len l) 1 true) (n' + 1) (obOf ((n', ⟨.ints kd l, true, ty⟩) :: ob)).get := by
  refine ⟨h.there, fun β xs w hS hA => (h.calls β xs w hS hA).mono ?_⟩
  rintro e w' ⟨x, β', he, hR, hS', st⟩
  let f : Nat → Option (Option Bl) := fun id => if id = n' then some none else β'.nm id
  have hn : β'.nm n' = none := hS'.fresh n' (Nat.le_refl _)
  have hall : β'.all ⟨β'.g, f⟩ := ⟨Gm.le.refl _, fun id q hq => by
    show f id = some q
    simp only [f]
    rw [if_neg (fun hc => by rw [hc, hn] at hq; cases hq)]; exact hq⟩
  have get : ∀ id, (obOf ((n', ⟨.ints kd l, true, ty⟩) :: ob)).get id = if id = n' then some ⟨.ints kd l, true, ty⟩ else (obOf ob).get id := fun id => by
    rw [obOf, Tr.get_put]
  have hwr : ∀ b, Wr ⟨β'.g, f⟩ (obOf ((n', ⟨.ints kd l, true, ty⟩) :: ob)).get b → Wr β' (obOf ob).get b := by
    rintro b ⟨id, o, p, h1, h2, h3, h4⟩
    have h3 : f id = some (some p) := h3
    simp only [f] at h3
    rw [get] at h1
    by_cases hid : id = n'
    · rw [if_pos hid] at h3; cases h3
    · rw [if_neg hid] at h1 h3
      exact ⟨id, o, p, h1, h2, h3, h4⟩
  have hx : x = .slice none 0 0 := by
    have : F1 (.sc (.slice none 0 0)) β'.g x := hR
    simp only [F1] at this
    exact this.1
  refine ⟨x, ⟨β'.g, f⟩, he, ?_, ⟨⟨hS'.env, fun id o e1 => ?_, fun id o id' o' p p' e1 hr e2 hne hp hp' => ?_, fun b cs hb => ⟨(hS'.fzs b cs hb).1, fun hc => (hS'.fzs b cs hb).2.1 (hwr b hc), (hS'.fzs b cs hb).2.2⟩, fun b c hb => ⟨(hS'.kvs b c hb).1, fun hc => (hS'.kvs b c hb).2 (hwr b hc)⟩⟩, fun id hid => ?_⟩, ⟨⟨st.le.g, fun id q hid hq => ?_⟩, st.os, st.tape, st.output, st.size, st.fr, fun b hb => st.own b (hwr b hb), st.fzn, st.kvn⟩⟩
  · have hlen : (E.len l).den β'.g.env = 0 := by
      show (((l.den β'.g.env).length : Nat) : Int) = 0
      rw [hS'.env, hl]; rfl
    show R0 ⟨β'.g, f⟩ (.sl n' 0 (.lit 0) (.len l) 1 true) x
    refine ⟨none, by show f n' = some none; simp [f], by show 0 ≤ (E.len l).den β'.g.env; rw [hlen]; exact Int.le_refl _, .inr ⟨rfl, rfl, rfl, by show ((E.len l).den β'.g.env).toNat = 0; rw [hlen]; rfl, none, hx⟩⟩
  · rw [get] at e1
    by_cases hid : id = n'
    · rw [if_pos hid] at e1
      cases e1
      refine ⟨none, by show f id = some none; simp [f, hid], ?_⟩
      show RH ⟨β'.g, f⟩ (.ints kd l) []
      simp only [RH, Fr]
      have : l.den β'.g.env = [] := by rw [hS'.env, hl]
      rw [this]; rfl
    · rw [if_neg hid] at e1
      obtain ⟨q, l1, l2⟩ := hS'.ob id o e1
      refine ⟨q, by show f id = some q; simp only [f]; rw [if_neg hid]; exact l1, ?_⟩
      cases q with
      | none => exact RH.mono hall (show RH β' o.row [] from l2)
      | some p =>
        obtain ⟨m1, cur, ys, rest, fz, m2, m3, m4, m5, m6, m7⟩ := l2
        exact ⟨m1, cur, ys, rest, fz, m2, m3, m4, RH.mono hall m5, m6, m7⟩
  · have hp : f id = some (some p) := hp
    have hp' : f id' = some (some p') := hp'
    simp only [f] at hp hp'
    rw [get] at e1 e2
    by_cases hid : id = n'
    · rw [if_pos hid] at hp; cases hp
    · by_cases hid' : id' = n'
      · rw [if_pos hid'] at hp'; cases hp'
      · rw [if_neg hid] at e1 hp
        rw [if_neg hid'] at e2 hp'
        exact hS'.sep id o id' o' p p' e1 hr e2 hne hp hp'
  · show f id = none
    simp only [f]
    rw [if_neg (by omega)]
    exact hS'.fresh id (by omega)
  · have := st.le.nm id q hid hq
    exact hall.nm id q this
/-- a contract's result in other words; a nil result as an own row that is empty. -/
theorem FCon.altN {P : Program} {g : FuncId} {args : List V} {k : Nat} {ob : List (Nat × Ob)} {t t' : T FRes} (h : FConOk P ⟨g, args, k, ob, t⟩)
    (he : ∀ ρ q', t'.pick ρ = some q' → okOk ρ q'.ok → ∃ q, t.pick ρ = some q ∧ okOk ρ q.ok ∧ ((V.imp ρ q.r q'.r ∧ q.n = q'.n ∧ Sto.imp ρ (obOf q.ob).get (obOf q'.ob).get) ∨
      (q.r = .sc (.slice none 0 0) ∧ ∃ l kd ty, l.den ρ = [] ∧ q'.r = .sl q.n 0 (.lit 0) (.len l) 1 true ∧ q'.n = q.n + 1 ∧ q'.ob = (q.n, ⟨.ints kd l, true, ty⟩) :: q.ob))) : FConOk P ⟨g, args, k, ob, t'⟩ := by
  intro ρ q' hp hb
  obtain ⟨q, h1, h2, h3⟩ := he ρ q' hp hb
  have hs := h ρ q h1 h2
  rcases h3 with ⟨h3, h4, h5⟩ | ⟨h3, l, kd, ty, h4, h5, h6, h7⟩
  · rw [h4] at hs
    exact ⟨hs.there, fun β xs w hS hA => (hs.calls β xs w hS hA).mono fun e w' ⟨x, β', he, hR, hS', st⟩ =>
      ⟨x, β', he, h3 β' x hS'.env hR, hS'.imp h5, st.le, st.os, st.tape, st.output, st.size, st.fr, fun b hb => st.own b (hb.imp h5), st.fzn, st.kvn⟩⟩
  · rw [h3] at hs
    rw [h5, h6, h7]
    exact Spec.nilNew hs h4
end Go.Proofs.YtmckhoaekbeijaaGreat.E
/- Keys: blocks that keep a rule. Plain Lean over the kit's model; no program. -/
namespace Go.Proofs.YtmckhoaekbeijaaGreat.E
open Go Go.RowKit
set_option linter.unusedVariables false
/-! ### values that speak of no key -/
mutual
def V.nk (v : V) : Bool := match v with
  | .key _ _ => false
  | .fs _ r => r.nk
  | .fe r _ _ _ => r.nk
  | .opt _ v => v.nk
  | .agg l => V.nks l
  | .tup l => V.nks l
  | .fn _ a b => V.nks a && V.nks b
  | _ => true
termination_by structural v
def V.nks (l : List V) : Bool := match l with
  | [] => true
  | v :: l => v.nk && V.nks l
termination_by structural l
def Row.nk (r : Row) : Bool := match r with
  | .any l => V.nks l
  | .ints _ _ => true
  | .recs _ _ t => V.nks t
termination_by structural r
end
/-- no keys. -/
def Gm.bare (γ : Gm) : Gm := { γ with kv := fun _ => none }
theorem Gm.bare_at (γ : Gm) (i : Int) : (γ.at i).bare = γ.bare.at i := rfl
mutual
theorem F1.bare : ∀ (v : V) {γ : Gm} {x : Value}, v.nk = true → F1 v γ x → F1 v γ.bare x := by
  intro v γ x h hv
  cases v with
  | fs z r =>
    simp only [V.nk] at h
    simp only [F1] at hv ⊢
    obtain ⟨xs, n, c, a, h1, h2, h3, h4, h5⟩ := hv
    exact ⟨xs, n, c, a, h1, h2, h3, Fr.bare r h h4, h5⟩
  | fe r i z c =>
    simp only [V.nk] at h
    simp only [F1] at hv ⊢
    obtain ⟨xs, b, d, full, h1, h2, h3, h4⟩ := hv
    exact ⟨xs, b, d, full, h1, Fr.bare r h h2, h3, h4⟩
  | key c s => simp only [V.nk] at h; cases h
  | opt b v =>
    simp only [V.nk] at h
    simp only [F1] at hv ⊢
    exact ⟨fun e => F1.bare v h (hv.1 e), hv.2⟩
  | und => simp only [F1] at hv
  | ptr => simp only [F1] at hv
  | sl => simp only [F1] at hv
  | agg => simp only [F1] at hv
  | tup => simp only [F1] at hv
  | fn => simp only [F1] at hv
  | _ => simp only [F1] at hv ⊢; exact hv
theorem Fs.bare : ∀ (vs : List V) {γ : Gm} {xs : List Value}, V.nks vs = true → Fs vs γ xs → Fs vs γ.bare xs := by
  intro vs γ xs h hv
  cases vs with
  | nil => cases xs <;> (unfold Fs at hv ⊢; exact hv)
  | cons v vs => cases xs with
    | nil => unfold Fs at hv; exact hv.elim
    | cons x xs =>
      simp only [V.nks, Bool.and_eq_true] at h
      unfold Fs at hv ⊢
      exact ⟨F1.bare v h.1 hv.1, Fs.bare vs h.2 hv.2⟩
theorem Fr.bare : ∀ (r : Row) {γ : Gm} {xs : List Value}, r.nk = true → Fr r γ xs → Fr r γ.bare xs := by
  intro r γ xs h hv
  cases r with
  | any cs => simp only [Row.nk] at h; simp only [Fr] at hv ⊢; exact Fs.bare cs h hv
  | ints k l => simp only [Fr] at hv ⊢; exact hv
  | recs z n t =>
    simp only [Row.nk] at h
    simp only [Fr] at hv ⊢
    exact ⟨hv.1, hv.2.1, fun i hi => Fs.bare t h (hv.2.2 i hi)⟩
end
def Bt.bare (β : Bt) : Bt := ⟨β.g.bare, β.nm⟩
theorem R0.bare {β : Bt} {v : V} {x : Value} (h : v.nk = true) (hv : R0 β v x) : R0 β.bare v x := by
  cases v with
  | ptr id i z c => exact hv
  | sl id co off len z top => exact hv
  | _ => exact F1.bare _ h hv
theorem F2.nks {β : Bt} {r : Bt → V → Value → Prop} (hr : ∀ v x, v.nk = true → r β v x → r β.bare v x) : ∀ {vs : List V} {xs : List Value}, V.nks vs = true → F2 (r β) vs xs → F2 (r β.bare) vs xs
  | [], [], _, _ => trivial
  | v :: vs, x :: xs, h, hv => by
    simp only [V.nks, Bool.and_eq_true] at h
    exact ⟨hr v x h.1 hv.1, F2.nks hr h.2 hv.2⟩
  | [], _ :: _, _, h => h.elim
  | _ :: _, [], _, h => h.elim
theorem R1.bare {β : Bt} {v : V} {x : Value} (h : v.nk = true) (hv : R1 β v x) : R1 β.bare v x := by
  cases v with
  | fn f a b =>
    obtain ⟨xs, ys, e, h1, h2⟩ := hv
    simp only [V.nk, Bool.and_eq_true] at h
    exact ⟨xs, ys, e, F2.nks (r := R0) (fun _ _ => R0.bare) h.1 h1, F2.nks (r := R0) (fun _ _ => R0.bare) h.2 h2⟩
  | und => exact hv
  | ptr id i z c => exact hv
  | sl id co off len z top => exact hv
  | agg => exact (show False by simp only [R1, R0, F1] at hv).elim
  | tup => exact (show False by simp only [R1, R0, F1] at hv).elim
  | _ => exact R0.bare (β := β) h hv
theorem R2.bare {β : Bt} {v : V} {x : Value} (h : v.nk = true) (hv : R2 β v x) : R2 β.bare v x := by
  cases v with
  | agg cs =>
    obtain ⟨xs, e, h1⟩ := hv
    exact ⟨xs, e, F2.nks (r := R1) (fun _ _ => R1.bare) h h1⟩
  | fn f a b => exact R1.bare (v := .fn f a b) h hv
  | und => exact hv
  | ptr id i z c => exact hv
  | sl id co off len z top => exact hv
  | tup => exact (show False by simp only [R2, R1, R0, F1] at hv).elim
  | _ => exact R1.bare (β := β) h hv
theorem R.bare {β : Bt} {v : V} {x : Value} (h : v.nk = true) (hv : R β v x) : R β.bare v x := by
  cases v with
  | tup cs =>
    obtain ⟨xs, e, h1⟩ := hv
    exact ⟨xs, e, F2.nks (r := R2) (fun _ _ => R2.bare) h h1⟩
  | und => trivial
  | agg cs => exact R2.bare (v := .agg cs) h hv
  | fn f a b => exact R2.bare (v := .fn f a b) h hv
  | ptr id i z c => exact hv
  | sl id co off len z top => exact hv
  | _ => exact R2.bare (β := β) h hv
/-- values that name nothing and speak of no key. -/
def V.pl (v : V) : Bool := v.closed && v.nk
theorem R.pl {β β' : Bt} (he : β'.g.env = β.g.env) (hf : ∀ b cs, β.g.fz b = some cs → β'.g.fz b = some cs) {v : V} {x : Value} (hv : v.pl = true) (h : R β v x) : R β' v x := by
  simp only [V.pl, Bool.and_eq_true] at hv
  exact R.closed (β := β.bare) ⟨he, hf, fun _ _ h => by cases h⟩ hv.1 (R.bare hv.2 h)
theorem F2.pl {β β' : Bt} (he : β'.g.env = β.g.env) (hf : ∀ b cs, β.g.fz b = some cs → β'.g.fz b = some cs) {vs : List V} {xs : List Value} (hv : vs.all V.pl = true) (h : F2 (R β) vs xs) : F2 (R β') vs xs := by
  rw [List.all_eq_true] at hv
  exact h.mono_mem fun v x hm hr => hr.pl he hf (hv v hm)

/-! ### a key as an object of one's own -/
def keyCells (s d p m u : E) : List V := [.int .i64 s, .int .u32 d, .int .i32 (.lit 0), .int .u32 (.lit 0), .int .i64 p, .int .u32 m, .int .i64 u]
def keyOb (c : Nat) (s d p m u : E) : Ob := ⟨.any (keyCells s d p m u), true, c⟩
theorem key_RH {β : Bt} {s d p m u : E} {xs : List Value} (h : RH β (.any (keyCells s d p m u)) xs) : xs = keyCs (s.den β.g.env) (d.den β.g.env) (p.den β.g.env) (m.den β.g.env) (u.den β.g.env) := by
  have h : F2 (R1 β) (keyCells s d p m u) xs := h
  have hl := h.length
  match xs, h with
  | [x1, x2, x3, x4, x5, x6, x7], ⟨h1, h2, h3, h4, h5, h6, h7, _⟩ =>
    have e : ∀ {k : IntKind} {e : E} {x : Value}, R1 β (.int k e) x → x = .int k (e.den β.g.env) := fun h => by simpa only [R1, R0, F1] using h
    rw [e h1, e h2, e h3, e h4, e h5, e h6, e h7]; rfl
theorem key_RH' (β : Bt) (s d p m u : E) : RH β (.any (keyCells s d p m u)) (keyCs (s.den β.g.env) (d.den β.g.env) (p.den β.g.env) (m.den β.g.env) (u.den β.g.env)) := by
  have e : ∀ (k : IntKind) (e : E), R1 β (.int k e) (.int k (e.den β.g.env)) := fun k e => by simp only [R1, R0, F1]
  exact ⟨e _ _, e _ _, e _ _, e _ _, e _ _, e _ _, e _ _, trivial⟩
theorem nowr (β : Bt) (b : Nat) : ¬ Wr β no b := fun ⟨_, _, _, e, _⟩ => by cases e
/-- **What a function does to a key of one's own it does to keys that keep the rule.** -/
theorem Spec.keyed {P : Program} {ρ : Env} {f : FuncId} {c : Nat} {s : E} {rest : List V} {r : V} (hrest : rest.all V.pl = true) (hr : r.pl = true)
    (h : ∀ d p m u : Int, keyRule (s.den ρ) d p → ∃ (n' : Nat) (s' dE pE mE uE d' p' m' u' : E) (σ' : Sto), 1 ≤ n' ∧ s'.den ρ = s.den ρ ∧ dE.den ρ = d ∧ pE.den ρ = p ∧ mE.den ρ = m ∧ uE.den ρ = u ∧ keyRule (s.den ρ) (d'.den ρ) (p'.den ρ) ∧ σ' 0 = some (keyOb c s' d' p' m' u') ∧ Spec P ρ f (.ptr 0 (.lit 0) 0 0 :: rest) 1 (no.put 0 (keyOb c s' dE pE mE uE)) r n' σ') (k : Nat) :
    Spec P ρ f (.key c s :: rest) k no r k no := by
  obtain ⟨_, _, _, _, _, _, _, _, _, _, _, _, _, _, _, _, _, _, _, hth⟩ := h 0 0 0 0 (.inl ⟨rfl, rfl⟩)
  refine ⟨hth.there, fun β xs w hS hA => ?_⟩
  obtain ⟨x0, xs, rfl⟩ : ∃ x0 xs', xs = x0 :: xs' := by
    cases xs with
    | nil => exact hA.elim
    | cons x xs => exact ⟨x, xs, rfl⟩
  obtain ⟨hk, hA⟩ := hA
  have hk : F1 (.key c s) β.g x0 := hk
  simp only [F1] at hk
  obtain ⟨b, rfl, hkv⟩ := hk
  obtain ⟨⟨o, ho, d, p, m, u, cur, tl, rfl, hcur, hrule⟩, _⟩ := hS.kvs b _ hkv
  have hρ : β.g.env = ρ := hS.env
  rw [hρ] at hcur hrule hkv
  obtain ⟨n', s', dE, pE, mE, uE, d', p', m', u', σ', hn', hs', hdE, hpE, hmE, huE, hrule', hσ', hspec⟩ := h d p m u hrule
  let β1 : Bt := ⟨{ β.g with kv := fun b' => if b' = b then none else β.g.kv b' }, fun id => if id = 0 then some (some ⟨b, cur.size⟩) else none⟩
  have hblt : b < w.heap.size := by rw [Array.getElem?_eq_some_iff] at ho; exact ho.1
  have hfz : ∀ cs, β.g.fz b = some cs → False := fun cs e => by
    have := (hS.fzs b cs e).2.2
    rw [hkv] at this; cases this
  have wr1 : ∀ b', Wr β1 (no.put 0 (keyOb c s' dE pE mE uE)) b' → b' = b := by
    rintro b' ⟨id, o', q, h1, h2, h3, rfl⟩
    simp only [β1] at h3
    by_cases e : id = 0
    · rw [if_pos e] at h3; cases h3; rfl
    · rw [if_neg e] at h3; cases h3
  have hS1 : Sim ρ 1 β1 (no.put 0 (keyOb c s' dE pE mE uE)) w := by
    refine ⟨⟨hρ, fun id o e => ?_, fun id o id' o' q q' e hr e' hne hp hp' => ?_, fun b' cs e => ⟨(hS.fzs b' cs e).1, fun hc => ?_, ?_⟩, fun b' cs e => ⟨?_, fun hc => ?_⟩⟩, fun id hid => ?_⟩
    · have hid : id = 0 := by
        by_cases e0 : id = 0
        · exact e0
        · simp [Sto.put, e0, no] at e
      subst hid
      simp only [Sto.put] at e
      cases e
      refine ⟨some ⟨b, cur.size⟩, by simp [β1], hblt, cur, _, tl, (0, 0), ho, rfl, hcur, ?_, fun _ => rfl, fun e => by cases e⟩
      have := key_RH' β1 s' dE pE mE uE
      have he : β1.g.env = ρ := hρ
      rw [he, hs', hdE, hpE, hmE, huE] at this
      exact this
    · have h0 : ∀ {j o}, (no.put 0 (keyOb c s' dE pE mE uE)) j = some o → j = 0 := fun {j o} e => by
        by_cases e0 : j = 0
        · exact e0
        · simp [Sto.put, e0, no] at e
      exact (hne ((h0 e).trans (h0 e').symm)).elim
    · have := wr1 b' hc
      subst this
      exact hfz cs e
    · show (if b' = b then none else β.g.kv b') = none
      by_cases e0 : b' = b
      · rw [if_pos e0]
      · rw [if_neg e0]; exact (hS.fzs b' cs e).2.2
    · have e : (if b' = b then none else β.g.kv b') = some cs := e
      by_cases e0 : b' = b
      · rw [if_pos e0] at e; cases e
      · rw [if_neg e0] at e; exact (hS.kvs b' cs e).1
    · have := wr1 b' hc
      subst this
      have e : (if b' = b' then none else β.g.kv b') = some cs := e
      rw [if_pos rfl] at e; cases e
    · have hid : 1 ≤ id := hid
      show (if id = 0 then some (some ⟨b, cur.size⟩) else none : Option (Option Bl)) = none
      rw [if_neg (by omega)]
  have hA1 : F2 (R β1) (.ptr 0 (.lit 0) 0 0 :: rest) (.pointer (some ⟨b, 0, none⟩) :: xs) := by
    refine ⟨(show R0 β1 (.ptr 0 (.lit 0) 0 0) (.pointer (some ⟨b, 0, none⟩)) from ⟨⟨b, cur.size⟩, by simp [β1], by simp⟩), ?_⟩
    exact F2.pl (β := β) (β' := β1) rfl (fun _ _ h => h) hrest hA
  refine (hspec.calls β1 _ w hS1 hA1).mono ?_
  rintro e w2 ⟨y, β2, he, hR, hS2, st⟩
  obtain ⟨q, hq, hok⟩ := hS2.ob 0 _ hσ'
  have hq' : β2.nm 0 = some (some ⟨b, cur.size⟩) := st.le.nm 0 _ (by omega) (by simp [β1])
  rw [hq] at hq'
  cases hq'
  obtain ⟨hlt, cur2, xs2, tl2, fz2, g1, g2, g3, g4, g5, _⟩ := hok
  have hρ2 : β2.g.env = ρ := hS2.env
  have g4 := key_RH g4
  rw [hρ2] at g4
  have hfz0 : fz2 = (0, 0) := g5 rfl
  subst hfz0
  have hw2 : Wr β2 σ' b := ⟨0, _, ⟨b, cur.size⟩, hσ', rfl, hq, rfl⟩
  let β3 : Bt := ⟨{ β2.g with kv := fun b' => if b' = b then some (c, s.den ρ) else β2.g.kv b' }, β.nm⟩
  have hfz2 : ∀ cs, β2.g.fz b = some cs → False := fun cs e => (hS2.fzs b cs e).2.1 hw2
  refine ⟨y, β3, he, R.pl (β := β2) (β' := β3) rfl (fun _ _ h => h) hr hR, ⟨⟨hρ2, fun _ _ e => (by cases e), fun _ _ _ _ _ _ e => (by cases e), fun b' cs e => ⟨(hS2.fzs b' cs e).1, nowr _ b', ?_⟩, fun b' cs e => ⟨?_, nowr _ b'⟩⟩, hS.fresh⟩,
    ⟨⟨⟨hρ2.trans hρ.symm, fun b' cs e => st.le.g.fz b' cs e, fun b' cs e => ?_⟩, fun id q _ hq => hq⟩, st.os, st.tape, st.output, st.size, fun b' hb' _ hkn => ?_, fun b' hb' => (nowr _ b' hb').elim, fun b' cs e => ?_, fun b' cs e => ?_⟩⟩
  · show (if b' = b then some (c, s.den ρ) else β2.g.kv b') = none
    by_cases e0 : b' = b
    · subst e0; exact (hfz2 cs e).elim
    · rw [if_neg e0]; exact (hS2.fzs b' cs e).2.2
  · have e : (if b' = b then some (c, s.den ρ) else β2.g.kv b') = some cs := e
    by_cases e0 : b' = b
    · rw [if_pos e0] at e
      cases e
      subst e0
      exact ⟨_, g1, d'.den ρ, p'.den ρ, m'.den ρ, u'.den ρ, cur2, tl2, rfl, by rw [g3, g4, hs'], hrule'⟩
    · rw [if_neg e0] at e
      exact (hS2.kvs b' cs e).1
  · show (if b' = b then some (c, s.den ρ) else β2.g.kv b') = some cs
    by_cases e0 : b' = b
    · subst e0
      rw [hkv] at e
      rw [if_pos rfl]; exact e
    · rw [if_neg e0]
      exact st.le.g.kv b' cs (by show (if b' = b then none else β.g.kv b') = some cs; rw [if_neg e0]; exact e)
  · have e0 : b' ≠ b := fun e0 => by subst e0; rw [hkv] at hkn; cases hkn
    exact st.fr b' hb' (fun hc => e0 (wr1 b' hc)) (by show (if b' = b then none else β.g.kv b') = none; rw [if_neg e0]; exact hkn)
  · rcases st.fzn b' cs e with h1 | h1 | h1
    · exact .inl h1
    · have := wr1 b' h1
      subst this
      exact (hfz2 cs e).elim
    · exact .inr (.inr h1)
  · have e' : (if b' = b then some (c, s.den ρ) else β2.g.kv b') = some cs := e
    by_cases e0 : b' = b
    · subst e0
      rw [if_pos rfl] at e'
      exact .inl (hkv.trans e')
    · rw [if_neg e0] at e'
      rcases st.kvn b' cs e' with h1 | h1 | h1
      · have h1 : (if b' = b then none else β.g.kv b') = some cs := h1
        rw [if_neg e0] at h1
        exact .inl h1
      · exact (e0 (wr1 b' h1)).elim
      · exact .inr (.inr h1)
/-- **A key that a function gives is one that keeps the rule.** -/
theorem Spec.toKey {P : Program} {ρ : Env} {f : FuncId} {args : List V} {c : Nat} {s : E} {n' : Nat} {σ' : Sto} (ha : args.all V.closed = true) (h : Spec P ρ f args 0 no (.ptr 0 (.lit 0) 0 0) n' σ') (h0 : σ' 0 = some (keyOb c s (.lit 0) (.lit 0) (.lit 0) (.lit 0))) (k : Nat) : Spec P ρ f args k no (.key c s) k no := by
  refine ⟨h.there, fun β xs w hS hA => ?_⟩
  let β0 : Bt := ⟨β.g, fun _ => none⟩
  have hρ : β.g.env = ρ := hS.env
  have hS0 : Sim ρ 0 β0 no w := ⟨⟨hρ, fun _ _ e => (by cases e), fun _ _ _ _ _ _ e => (by cases e), fun b cs hb => ⟨(hS.fzs b cs hb).1, nowr _ b, (hS.fzs b cs hb).2.2⟩, fun b c hb => ⟨(hS.kvs b c hb).1, nowr _ b⟩⟩, fun _ _ => rfl⟩
  refine (h.calls β0 xs w hS0 (F2.closed (β := β) (β' := β0) (Gm.le.refl _) ha hA)).mono ?_
  rintro e w2 ⟨y, β2, he, hR, hS2, st⟩
  obtain ⟨p, hp, hy⟩ := (show ∃ p, β2.nm 0 = some (some p) ∧ y = .pointer (some ⟨p.b, ((E.lit 0).den β2.g.env).toNat * 0 + 0, none⟩) from hR)
  obtain ⟨q, hq, hok⟩ := hS2.ob 0 _ h0
  rw [hp] at hq
  cases hq
  obtain ⟨hlt, cur2, xs2, tl2, fz2, g1, g2, g3, g4, g5, _⟩ := hok
  have hρ2 : β2.g.env = ρ := hS2.env
  have g4 := key_RH g4
  rw [hρ2] at g4
  have hfz0 : fz2 = (0, 0) := g5 rfl
  subst hfz0
  have hw2 : Wr β2 σ' p.b := ⟨0, _, p, h0, rfl, hp, rfl⟩
  have hnew : w.heap.size ≤ p.b := by
    rcases st.own p.b hw2 with h | h
    · exact (nowr _ _ h).elim
    · exact h
  have hfz2 : ∀ cs, β2.g.fz p.b = some cs → False := fun cs e => (hS2.fzs p.b cs e).2.1 hw2
  have hkv2 : ∀ cs, β2.g.kv p.b = some cs → False := fun cs e => (hS2.kvs p.b cs e).2 hw2
  let β3 : Bt := ⟨{ β2.g with kv := fun b' => if b' = p.b then some (c, s.den ρ) else β2.g.kv b' }, β.nm⟩
  refine ⟨y, β3, he, ?_, ⟨⟨hρ2, fun _ _ e => (by cases e), fun _ _ _ _ _ _ e => (by cases e), fun b' cs e => ⟨(hS2.fzs b' cs e).1, nowr _ b', ?_⟩, fun b' cs e => ⟨?_, nowr _ b'⟩⟩, hS.fresh⟩,
    ⟨⟨⟨hρ2.trans hρ.symm, fun b' cs e => st.le.g.fz b' cs e, fun b' cs e => ?_⟩, fun id q _ hq => hq⟩, st.os, st.tape, st.output, st.size, fun b' hb' _ hk => st.fr b' hb' (nowr _ b') hk, fun b' hb' => (nowr _ b' hb').elim, fun b' cs e => ?_, fun b' cs e => ?_⟩⟩
  · show F1 (.key c s) β3.g y
    simp only [F1]
    refine ⟨p.b, by rw [hy]; simp, ?_⟩
    show (if p.b = p.b then some (c, s.den ρ) else β2.g.kv p.b) = some (c, s.den β2.g.env)
    rw [if_pos rfl, hρ2]
  · show (if b' = p.b then some (c, s.den ρ) else β2.g.kv b') = none
    by_cases e0 : b' = p.b
    · subst e0; exact (hfz2 cs e).elim
    · rw [if_neg e0]; exact (hS2.fzs b' cs e).2.2
  · have e : (if b' = p.b then some (c, s.den ρ) else β2.g.kv b') = some cs := e
    by_cases e0 : b' = p.b
    · rw [if_pos e0] at e
      cases e
      subst e0
      exact ⟨_, g1, 0, 0, 0, 0, cur2, tl2, rfl, by rw [g3, g4]; rfl, .inl ⟨rfl, rfl⟩⟩
    · rw [if_neg e0] at e
      exact (hS2.kvs b' cs e).1
  · show (if b' = p.b then some (c, s.den ρ) else β2.g.kv b') = some cs
    have h1 := st.le.g.kv b' cs e
    by_cases e0 : b' = p.b
    · subst e0; exact (hkv2 cs h1).elim
    · rw [if_neg e0]; exact h1
  · rcases st.fzn b' cs e with h | h | h
    · exact .inl h
    · exact (nowr _ _ h).elim
    · exact .inr (.inr h)
  · have e' : (if b' = p.b then some (c, s.den ρ) else β2.g.kv b') = some cs := e
    by_cases e0 : b' = p.b
    · exact .inr (.inr (by rw [e0]; exact hnew))
    · rw [if_neg e0] at e'
      rcases st.kvn b' cs e' with h | h | h
      · exact .inl h
      · exact (nowr _ _ h).elim
      · exact .inr (.inr h)
/-- letters as they are, but the tenth and the eleventh number. -/
def keyS (m u : Int) : Sub := ⟨[.var 0, .var 1, .var 2, .var 3, .var 4, .var 5, .var 6, .var 7, .var 8, .var 9, .lit m, .lit u], [.var 0, .var 1, .var 2, .var 3], [.var 0, .var 1, .var 2, .var 3], [.var 0, .var 1, .var 2, .var 3], .ix⟩
def keyE (c : Nat) (d p : E) : Ob := keyOb c (.var 0) d p (.var 10) (.var 11)
def keyEnd (c : Nat) (r : V) (d p m u : E) : FRes := ⟨r, 1, [(0, keyOb c (.var 0) d p m u)], []⟩
theorem no_put (o : Ob) : (obOf [(0, o)]).get = no.put 0 o := by
  funext id
  simp only [obOf, Tr.get_put, Sto.put]
  rfl
theorem keyOb_sub (c : Nat) (s d p m u : E) (q : Sub) : (keyOb c s d p m u).sub q = keyOb c (s.sub q) (d.sub q) (p.sub q) (m.sub q) (u.sub q) := by
  simp only [keyOb, Ob.sub, Row.sub, keyCells, V.subs, V.sub, E.sub]
theorem sto_put_sub (o : Ob) (q : Sub) : Sto.sub (no.put 0 o) q = no.put 0 (o.sub q) := by
  funext id
  simp only [Sto.sub, Sto.put]
  by_cases e : id = 0
  · rw [if_pos e, if_pos e]; rfl
  · rw [if_neg e, if_neg e]; rfl
/-- **A contract on a key of one's own, whether its public number was asked for or not, is one on keys.** -/
theorem Con.keyed {P : Program} {f : FuncId} {c : Nat} {rest : List V} {t0 t1 : T FRes} {t : T (V × List B)} (pE : E) (hp : ∀ ρ, pE.den ρ = powM 4 (ρ.e 0)) (hrest : rest.all V.pl = true) (hsr : ∀ m u, V.subs rest (keyS m u) = rest)
    (h0 : FConOk P ⟨f, .ptr 0 (.lit 0) 0 0 :: rest, 1, [(0, keyE c (.lit 0) (.lit 0))], t0⟩) (h1 : FConOk P ⟨f, .ptr 0 (.lit 0) 0 0 :: rest, 1, [(0, keyE c (.lit 1) pE)], t1⟩)
    (hps : ∀ m u, pE.sub (keyS m u) = pE)
    (he : ∀ ρ r bs, t.pick ρ = some (r, bs) → okOk ρ bs → r.pl = true ∧ ∀ m u, r.sub (keyS m u) = r ∧
      (∃ d p m' u', t0.pick (ρ.sub (keyS m u)) = some (keyEnd c r d p m' u') ∧ keyRule (ρ.e 0) (d.den (ρ.sub (keyS m u))) (p.den (ρ.sub (keyS m u)))) ∧
      (∃ d p m' u', t1.pick (ρ.sub (keyS m u)) = some (keyEnd c r d p m' u') ∧ keyRule (ρ.e 0) (d.den (ρ.sub (keyS m u))) (p.den (ρ.sub (keyS m u))))) : ConOk P ⟨f, .key c (.var 0) :: rest, t⟩ := by
  intro ρ r bs hpk hb k
  obtain ⟨hr, he⟩ := he ρ r bs hpk hb
  refine Spec.keyed hrest hr (fun d p m u hrule => ?_) k
  obtain ⟨hrs, ⟨d0, p0, m0, u0, e0, k0⟩, ⟨d1, p1, m1, u1, e1, k1⟩⟩ := he m u
  have hn : (keyS m u).nix := Sub.noix_ok rfl
  have key : ∀ (dE pE' d' p' m' u' : E), dE.sub (keyS m u) = dE → pE'.sub (keyS m u) = pE' → dE.den ρ = d → pE'.den ρ = p → keyRule (ρ.e 0) (d'.den (ρ.sub (keyS m u))) (p'.den (ρ.sub (keyS m u))) →
      Spec P (ρ.sub (keyS m u)) f (.ptr 0 (.lit 0) 0 0 :: rest) 1 (obOf [(0, keyE c dE pE')]).get r 1 (obOf [(0, keyOb c (.var 0) d' p' m' u')]).get → (∃ (n' : Nat) (s' dE pE mE uE : E) (d' p' m' u' : E) (σ' : Sto), 1 ≤ n' ∧ s'.den ρ = (E.var 0).den ρ ∧ dE.den ρ = d ∧ pE.den ρ = p ∧ mE.den ρ = m ∧ uE.den ρ = u ∧ keyRule ((E.var 0).den ρ) (d'.den ρ) (p'.den ρ) ∧ σ' 0 = some (keyOb c s' d' p' m' u') ∧ Spec P ρ f (.ptr 0 (.lit 0) 0 0 :: rest) 1 (no.put 0 (keyOb c s' dE pE mE uE)) r n' σ') := by
    intro dE pE' d' p' m' u' q1 q2 q3 q4 q5 hs
    have hs := Spec.sub2 hn hs
    rw [no_put, no_put, sto_put_sub, sto_put_sub, hrs] at hs
    unfold keyE at hs
    rw [keyOb_sub, keyOb_sub, q1, q2] at hs
    have ea : V.subs (.ptr 0 (.lit 0) 0 0 :: rest) (keyS m u) = .ptr 0 (.lit 0) 0 0 :: rest := by
      simp only [V.subs, V.sub, E.sub]
      rw [hsr]
    rw [ea] at hs
    exact ⟨1, .var 0, dE, pE', .lit m, .lit u, d'.sub (keyS m u), p'.sub (keyS m u), m'.sub (keyS m u), u'.sub (keyS m u), _, Nat.le_refl _, rfl, q3, q4, rfl, rfl, by rw [E.sub_den hn, E.sub_den hn]; exact q5, by simp [Sto.put]; rfl, hs⟩
  rcases hrule with ⟨rfl, rfl⟩ | ⟨rfl, hp'⟩
  · exact key (.lit 0) (.lit 0) d0 p0 m0 u0 rfl rfl rfl rfl k0 (h0 _ _ e0 fun b hb => by cases hb)
  · exact key (.lit 1) pE d1 p1 m1 u1 rfl (hps m u) rfl ((hp ρ).trans hp'.symm) k1 (h1 _ _ e1 fun b hb => by cases hb)
end Go.Proofs.YtmckhoaekbeijaaGreat.E
