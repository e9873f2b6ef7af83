/- Contracts among more objects; what is kept for good, or lent. Plain Lean over the kit's model; no program. -/
import Derived.Test.YtnklnboglijcbaaE14
namespace Go.Proofs.Ytnklnboglijcbaa.E
open Go Go.RowKit
set_option linter.unusedVariables false

theorem frame {ρ : Env} {n n' : Nat} {β β' : Bt} {σ τ σ' : Sto} {w w' : World} (hS : Sim ρ n β τ w) (hs : σ.le τ) (h : Step n β σ w β' σ' w') (h' : Sim ρ n' β' σ' w') :
    Sim ρ n' β' (Sto.over n τ σ σ') w' ∧ Step n β τ w β' (Sto.over n τ σ σ') w' := by
  have hall : β.all β' := ⟨h.le.g, fun id q hq => h.le.nm id q (hS.lt hq) hq⟩
  have hcase : ∀ id o, Sto.over n τ σ σ' id = some o → σ' id = some o ∨ (id < n ∧ σ id = none ∧ τ id = some o) := by
    intro id o e
    unfold Sto.over at e
    split at e
    · exact .inl e
    · rename_i h1
      split at e
      · exact .inl e
      · rename_i h2
        refine .inr ⟨?_, by simpa using h2, e⟩
        have : ¬ n ≤ id := fun hc => h1 (Nat.ble_eq_true_of_le hc)
        omega
  have hWr : ∀ b, Wr β σ b → Wr β τ b := fun b hb => hb.mono hs
  have hoth : ∀ id o p, σ id = none → τ id = some o → β.nm id = some (some p) → ¬ Wr β σ p.b := by
    rintro id o p e1 e2 e3 ⟨id0, o0, p0, f1, f2, f3, f4⟩
    refine hS.sep id0 o0 id o p0 p (hs _ _ f1) f2 e2 ?_ f3 e3 f4
    rintro rfl; rw [e1] at f1; cases f1
  have hkv : ∀ id o p, τ id = some o → β.nm id = some (some p) → β.g.kv p.b = none := by
    intro id o p e1 e2
    cases ho : o.rw with
    | true =>
      cases e : β.g.kv p.b with
      | none => rfl
      | some c => exact ((hS.kvs _ _ e).2 ⟨id, o, p, e1, ho, e2, rfl⟩).elim
    | false =>
      obtain ⟨q, hq, hok⟩ := hS.ob id o e1
      rw [e2] at hq; cases hq
      obtain ⟨_, cur, xs, rest, fz, _, _, _, _, _, h6⟩ := hok
      exact (hS.fzs _ _ (h6 ho)).2.2
  have hWr' : ∀ b, Wr β' (Sto.over n τ σ σ') b → Wr β' σ' b ∨ (∃ id o p, id < n ∧ σ id = none ∧ τ id = some o ∧ o.rw = true ∧ β.nm id = some (some p) ∧ p.b = b) := by
    rintro b ⟨id, o, p, e, hr, hp, rfl⟩
    rcases hcase id o e with e | ⟨hlt, e0, e⟩
    · exact .inl ⟨id, o, p, e, hr, hp, rfl⟩
    · obtain ⟨q, hq, _⟩ := hS.ob id o e
      have := hall.nm _ _ hq
      rw [hp] at this; cases this
      exact .inr ⟨id, o, p, hlt, e0, e, hr, hq, rfl⟩
  refine ⟨⟨⟨h'.env, ?_, ?_, ?_, ?_⟩, h'.fresh⟩, ⟨h.le, h.os, h.tape, h.output, h.size, fun b hb hw hk => h.fr b hb (fun hc => hw (hWr b hc)) hk, ?_, ?_, ?_⟩⟩
  · intro id o e
    rcases hcase id o e with e | ⟨hlt, e0, e⟩
    · exact h'.ob id o e
    · obtain ⟨q, hq, hok⟩ := hS.ob id o e
      refine ⟨q, hall.nm _ _ hq, hok.keep (fun xs hx => hx.mono hall) hall.g.fz h.size ?_⟩
      rintro p rfl
      exact h.fr p.b hok.1 (hoth id o p e0 e hq) (hkv id o p e hq)
  · intro id o id' o' p p' e hr e' hne hp hp'
    rcases hcase id o e with e | ⟨hlt, e0, e⟩ <;> rcases hcase id' o' e' with e' | ⟨hlt', e0', e'⟩
    · exact h'.sep id o id' o' p p' e hr e' hne hp hp'
    · obtain ⟨q', hq', hok'⟩ := hS.ob id' o' e'
      have := hall.nm _ _ hq'
      rw [hp'] at this; cases this
      intro hc
      rcases h.own p.b ⟨id, o, p, e, hr, hp, rfl⟩ with hw | hge
      · exact hoth id' o' p' e0' e' hq' (by rw [← hc]; exact hw)
      · have := hok'.1; omega
    · obtain ⟨q, hq, hok⟩ := hS.ob id o e
      have := hall.nm _ _ hq
      rw [hp] at this; cases this
      have hWq : Wr β τ p.b := ⟨id, o, p, e, hr, hq, rfl⟩
      have hlt2 := hS.wr_lt hWq
      intro hc
      cases ho' : o'.rw with
      | true =>
        rcases h.own p'.b ⟨id', o', p', e', ho', hp', rfl⟩ with hw | hge
        · exact hoth id o p e0 e hq (by rw [hc]; exact hw)
        · omega
      | false =>
        obtain ⟨q3, hq3, hok'⟩ := h'.ob id' o' e'
        rw [hp'] at hq3; cases hq3
        obtain ⟨_, cur, xs, rest, fz, _, _, _, _, _, h6⟩ := hok'
        rcases h.fzn _ _ (h6 ho') with k1 | k1 | k1
        · exact (hS.fzs _ _ k1).2.1 (by rw [← hc]; exact hWq)
        · exact hoth id o p e0 e hq (by rw [hc]; exact k1)
        · omega
    · obtain ⟨q, hq, hok⟩ := hS.ob id o e
      have := hall.nm _ _ hq
      rw [hp] at this; cases this
      obtain ⟨q', hq', hok'⟩ := hS.ob id' o' e'
      have := hall.nm _ _ hq'
      rw [hp'] at this; cases this
      exact hS.sep id o id' o' p p' e hr e' hne hq hq'
  · intro b cs hb
    have h1 := h'.fzs b cs hb
    refine ⟨h1.1, fun hc => ?_, h1.2.2⟩
    rcases hWr' b hc with hc | ⟨id, o, p, hlt, e0, e, hr, hp, rfl⟩
    · exact h1.2.1 hc
    · have hWq : Wr β τ p.b := ⟨id, o, p, e, hr, hp, rfl⟩
      rcases h.fzn _ _ hb with k1 | k1 | k1
      · exact (hS.fzs _ _ k1).2.1 hWq
      · exact hoth id o p e0 e hp k1
      · have := hS.wr_lt hWq; omega
  · intro b c hb
    have h1 := h'.kvs b c hb
    refine ⟨h1.1, fun hc => ?_⟩
    rcases hWr' b hc with hc | ⟨id, o, p, hlt, e0, e, hr, hp, rfl⟩
    · exact h1.2 hc
    · have hWq : Wr β τ p.b := ⟨id, o, p, e, hr, hp, rfl⟩
      rcases h.kvn _ _ hb with k1 | k1 | k1
      · exact (hS.kvs _ _ k1).2 hWq
      · exact hoth id o p e0 e hp k1
      · have := hS.wr_lt hWq; omega
  · intro b hb
    rcases hWr' b hb with hc | ⟨id, o, p, hlt, e0, e, hr, hp, rfl⟩
    · rcases h.own b hc with h1 | h1
      · exact .inl (hWr b h1)
      · exact .inr h1
    · exact .inl ⟨id, o, p, e, hr, hp, rfl⟩
  · intro b c hb
    rcases h.fzn b c hb with h1 | h1 | h1
    · exact .inl h1
    · exact .inr (.inl (hWr b h1))
    · exact .inr (.inr h1)
  · intro b c hb
    rcases h.kvn b c hb with h1 | h1 | h1
    · exact .inl h1
    · exact .inr (.inl (hWr b h1))
    · exact .inr (.inr h1)

/-- a contract over few objects holds over more. -/
theorem Spec.frame {P : Program} {ρ : Env} {g : FuncId} {args : List V} {n n' : Nat} {σ σs σs' : Sto} {r : V} (hs : σs.le σ) (h : Spec P ρ g args n σs r n' σs') : Spec P ρ g args n σ r n' (Sto.over n σ σs σs') :=
  ⟨h.there, fun β xs w hS hA => (h.calls β xs w (hS.drop hs) hA).mono fun e w' ⟨x, β', he, hR, hS', st⟩ =>
    let ⟨hS'', st'⟩ := E.frame hS hs st hS'
    ⟨x, β', he, hR, hS'', st'⟩⟩
theorem Spec.congr {P : Program} {ρ : Env} {g : FuncId} {args : List V} {n n' : Nat} {σ σ' σ'' : Sto} {r : V} (h : Spec P ρ g args n σ r n' σ') (he : ∀ β w, Sim ρ n β σ w → σ' = σ'') : Spec P ρ g args n σ r n' σ'' :=
  ⟨h.there, fun β xs w hS hA => by have := h.calls β xs w hS hA; rwa [he β w hS] at this⟩
theorem Spec.less {P : Program} {ρ : Env} {g : FuncId} {args : List V} {n n' : Nat} {σ σ' σ'' : Sto} {r : V} (h : Spec P ρ g args n σ r n' σ') (hs : σ''.le σ') : Spec P ρ g args n σ r n' σ'' :=
  ⟨h.there, fun β xs w hS hA => (h.calls β xs w hS hA).mono fun e w' ⟨x, β', he, hR, hS', st⟩ => ⟨x, β', he, hR, hS'.drop hs, st.dropEnd hs⟩⟩

/-! ### new names behind what was there -/
/-- objects with new names n, n+1, .. -/
def newsL (n : Nat) : List Ob → Sto
  | [] => no
  | o :: l => fun id => if Nat.beq id n then some o else newsL (n + 1) l id
theorem newsL_lt : ∀ {l : List Ob} {n id : Nat} {o : Ob}, newsL n l id = some o → n ≤ id ∧ id < n + l.length
  | [], n, id, o, h => by cases h
  | a :: l, n, id, o, h => by
    unfold newsL at h
    split at h
    · rename_i e; have := Nat.eq_of_beq_eq_true e; simp; omega
    · have := newsL_lt h; simp; omega

/-! ### for good -/
/-- objects that are read alone from now on. -/
def frz (D : List Nat) (σ : Sto) : Sto := fun id => if D.contains id then (σ id).map fun o => { o with rw := false } else σ id
theorem freeze_ok {ρ : Env} {n : Nat} {β : Bt} {σ : Sto} {w : World} (hS : Sim ρ n β σ w) (D : List Nat) : ∃ β' : Bt, β'.nm = β.nm ∧ β'.g.kv = β.g.kv ∧ β.all β' ∧ Sim ρ n β' (frz D σ) w ∧ (∀ e, Step e β σ w β' (frz D σ) w) ∧
    (∀ b cs, β'.g.fz b = some cs → β.g.fz b = some cs ∨ Wr β σ b) := by
  classical
  let hit : Nat → Prop := fun b => ∃ id o p, σ id = some o ∧ o.rw = true ∧ D.contains id = true ∧ β.nm id = some (some p) ∧ p.b = b
  let now : Nat → Option (Array Value) := fun b => match w.heap[b]? with | some (.cells cur _ _) => some cur | _ => none
  let β' : Bt := ⟨{ β.g with fz := fun b => if hit b then now b else β.g.fz b }, β.nm⟩
  have hhit : ∀ b, hit b → Wr β σ b := fun b ⟨id, o, p, h1, h2, _, h4, h5⟩ => ⟨id, o, p, h1, h2, h4, h5⟩
  have hnot : ∀ b cs, β.g.fz b = some cs → ¬ hit b := fun b cs h hc => (hS.fzs b cs h).2.1 (hhit b hc)
  have hgle : β.g.le β'.g := ⟨rfl, fun b cs h => by simp only [β']; rw [if_neg (hnot b cs h)]; exact h, fun _ _ h => h⟩
  have hall : β.all β' := ⟨hgle, fun _ _ h => h⟩
  have hsome : ∀ id o, frz D σ id = some o → ∃ o0, σ id = some o0 ∧ o.row = o0.row ∧ o.e = o0.e ∧ ((D.contains id = true ∧ o.rw = false) ∨ (D.contains id = false ∧ o = o0)) := by
    intro id o h
    unfold frz at h
    split at h
    · rename_i hd
      obtain ⟨o0, h0, rfl⟩ := Option.map_eq_some_iff.1 h
      exact ⟨o0, h0, rfl, rfl, .inl ⟨hd, rfl⟩⟩
    · rename_i hd
      exact ⟨o, h, rfl, rfl, .inr ⟨by simpa using hd, rfl⟩⟩
  have hWr : ∀ b, Wr β' (frz D σ) b → Wr β σ b ∧ ¬ hit b := by
    rintro b ⟨id, o, p, h, hr, hp, rfl⟩
    obtain ⟨o0, h0, _, _, hc⟩ := hsome id o h
    rcases hc with ⟨_, hf⟩ | ⟨hd, rfl⟩
    · rw [hf] at hr; cases hr
    · refine ⟨⟨id, o, p, h0, hr, hp, rfl⟩, ?_⟩
      rintro ⟨id2, o2, p2, g1, g2, g3, g4, g5⟩
      refine hS.sep id o id2 o2 p p2 h0 hr g1 ?_ hp g4 g5.symm
      rintro rfl; rw [hd] at g3; cases g3
  have hfzn : ∀ b cs, β'.g.fz b = some cs → β.g.fz b = some cs ∨ Wr β σ b := by
    intro b cs h
    by_cases hb : hit b
    · exact .inr (hhit b hb)
    · simp only [β', if_neg hb] at h; exact .inl h
  have hsim : Sim ρ n β' (frz D σ) w := by
    refine ⟨⟨hS.env, ?_, ?_, ?_, ?_⟩, hS.fresh⟩
    · intro id o h
      obtain ⟨o0, h0, hrow, he, hc⟩ := hsome id o h
      obtain ⟨q, hq, hok⟩ := hS.ob id o0 h0
      refine ⟨q, hq, ?_⟩
      cases q with
      | none =>
        show RH β' o.row []
        rw [hrow]; exact RH.mono hall hok
      | some p =>
        obtain ⟨hlt, cur, xs, rest, fz, h1, h2, h3, h4, h5, h6⟩ := hok
        refine ⟨hlt, cur, xs, rest, fz, by rw [he]; exact h1, h2, h3, by rw [hrow]; exact h4.mono hall, fun hr => ?_, fun hr => ?_⟩
        · rcases hc with ⟨_, hf⟩ | ⟨_, rfl⟩
          · rw [hf] at hr; cases hr
          · exact h5 hr
        · rcases hc with ⟨hd, hf⟩ | ⟨_, rfl⟩
          · cases hr0 : o0.rw with
            | false => exact hgle.fz _ _ (h6 hr0)
            | true =>
              have hh : hit p.b := ⟨id, o0, p, h0, hr0, hd, hq, rfl⟩
              simp only [β', if_pos hh, now, h1]
          · exact hgle.fz _ _ (h6 hr)
    · intro id o id' o' p p' h hr h' hne hp hp'
      obtain ⟨o0, h0, _, _, hc⟩ := hsome id o h
      obtain ⟨o1, h1, _, _, _⟩ := hsome id' o' h'
      rcases hc with ⟨_, hf⟩ | ⟨_, rfl⟩
      · rw [hf] at hr; cases hr
      · exact hS.sep id o id' o1 p p' h0 hr h1 hne hp hp'
    · intro b cs h
      by_cases hb : hit b
      · have hb0 := hb
        obtain ⟨id, o, p, h1, h2, h3, h4, rfl⟩ := hb0
        obtain ⟨q, hq, hok⟩ := hS.ob id o h1
        rw [h4] at hq; cases hq
        obtain ⟨hlt, cur, xs, rest, fz, k1, _⟩ := hok
        simp only [β', if_pos hb, now, k1] at h
        cases h
        refine ⟨⟨_, _, k1⟩, fun hc => (hWr _ hc).2 hb, ?_⟩
        show β.g.kv p.b = none
        cases hk : β.g.kv p.b with
        | none => rfl
        | some c => exact ((hS.kvs _ _ hk).2 (hhit _ hb)).elim
      · simp only [β', if_neg hb] at h
        obtain ⟨k1, k2, k3⟩ := hS.fzs b cs h
        exact ⟨k1, fun hc => k2 (hWr b hc).1, k3⟩
    · intro b c h
      obtain ⟨k1, k2⟩ := hS.kvs b c h
      exact ⟨k1, fun hc => k2 (hWr b hc).1⟩
  exact ⟨β', rfl, rfl, hall, hsim, fun e => ⟨⟨hgle, fun _ _ _ h => h⟩, rfl, rfl, rfl, Nat.le_refl _, fun _ _ _ _ => rfl, fun b hb => .inl (hWr b hb).1, fun b cs h => (hfzn b cs h).imp_right .inl, fun b c h => .inl h⟩, hfzn⟩

/-! ### without names -/
mutual
/-- a value by what stands where it points, all of that being kept for good. -/
def deep (σ : Sto) : Nat → V → Option V
  | 0, _ => none
  | k + 1, v => match v with
    | .ptr id i z c => match σ id with
      | some ob => if ob.rw then none else match deepR σ k ob.row with
        | some r => some (.fe r i z c)
        | none => none
      | none => none
    | .sl id co off len z top => match σ id with
      | some ob => if ob.rw then none else match co with
        | 0 => if Nat.blt 0 z then match hiE off len with
            | some hi => match ob.row.cut z off hi with
              | some (r, []) => match deepR σ k r with
                | some r => some (.fs z r)
                | none => none
              | _ => none
            | none => none
          else none
        | co => match litE off, litE len with
          | some a, some m => if Nat.blt 0 z && Nat.blt 0 m then match ob.row.seg (.lit 0) 0 (co + a * z) (m * z) with
              | some (cs, []) => match deepR σ k (mkRow cs) with
                | some r => some (.fs z r)
                | none => none
              | _ => none
            else none
          | _, _ => none
      | none => none
    | .agg cs => match deeps σ k cs with
      | some cs => some (.agg cs)
      | none => none
    | .tup cs => match deeps σ k cs with
      | some cs => some (.tup cs)
      | none => none
    | .fn f a b => match deeps σ k a, deeps σ k b with
      | some a, some b => some (.fn f a b)
      | _, _ => none
    | v => some v
def deeps (σ : Sto) : Nat → List V → Option (List V)
  | 0, _ => none
  | k + 1, l => match l with
    | [] => some []
    | v :: l => match deep σ k v, deeps σ k l with
      | some v, some l => some (v :: l)
      | _, _ => none
def deepR (σ : Sto) : Nat → Row → Option Row
  | 0, _ => none
  | k + 1, r => match r with
    | .any cs => if cs.all V.cell0 then match deeps σ k cs with
        | some cs => some (.any cs)
        | none => none
      else none
    | r => some r
end

section
variable {P : Program} {ρ : Env} {n : Nat} {β : Bt} {σ : Sto} {w : World}
theorem F2.R0_of {vs : List V} {xs : List Value} (h : F2 (R1 β) vs xs) (hc : vs.all V.cell0 = true) : F2 (R0 β) vs xs := by
  rw [List.all_eq_true] at hc
  refine h.mono_mem fun v x hv hR => ?_
  have := hc v hv
  cases v <;> first | (cases this; done) | exact hR
theorem deep_ok (hS : Sim ρ n β σ w) : ∀ k : Nat, (∀ v v' x, deep σ k v = some v' → v.cell0 = true → R0 β v x → F1 v' β.g x) ∧ (∀ vs vs' xs, deeps σ k vs = some vs' → vs.all V.cell0 = true → F2 (R0 β) vs xs → Fs vs' β.g xs) ∧ (∀ r r' xs, deepR σ k r = some r' → RH β r xs → Fr r' β.g xs)
  | 0 => ⟨fun _ _ _ h => (by unfold deep at h; cases h), fun _ _ _ h => (by unfold deeps at h; cases h), fun _ _ _ h => (by unfold deepR at h; cases h)⟩
  | k + 1 => by
    obtain ⟨ih1, ih2, ih3⟩ := deep_ok hS k
    refine ⟨fun v v' x h hc hR => ?_, fun vs vs' xs h hc hF => ?_, fun r r' xs h hR => ?_⟩
    · unfold deep at h
      split at h
      · rename_i id i z c
        split at h
        · rename_i ob hob
          split at h
          · cases h
          · rename_i hrw
            split at h
            · rename_i r hr
              cases h
              obtain ⟨p, hp, rfl⟩ := (show R0 β (.ptr id i z c) x from hR)
              obtain ⟨q, hq, hok⟩ := hS.ob id ob hob
              obtain rfl : some p = q := Option.some.inj (hp.symm.trans hq)
              obtain ⟨hlt, cur, xs, rest, fz, hg, hsz, hcur, hRH, _, hfz⟩ := hok
              simp only [F1]
              refine ⟨xs, p.b, 0, cur, by simp, ih3 _ _ _ hr hRH, hfz (by simpa using hrw), ?_⟩
              rw [hcur, List.drop_zero, List.take_left]
            · cases h
        · cases h
      · rename_i id co off len z top
        split at h
        · rename_i ob hob
          split at h
          · cases h
          · rename_i hrw
            obtain ⟨q0, hq0, hok⟩ := hS.ob id ob hob
            obtain ⟨q, hq, hl0, hcase⟩ := (show R0 β (.sl id co off len z top) x from hR)
            obtain rfl : q0 = q := Option.some.inj (hq0.symm.trans hq)
            split at h
            · split at h
              · rename_i hz
                have hz0 : 0 < z := Nat.le_of_ble_eq_true hz
                split at h
                · rename_i hi hhi
                  split at h
                  · rename_i r hcut
                    split at h
                    · rename_i r' hr
                      cases h
                      have hh := hiE_ok (ρ := β.g.env) hhi
                      simp only [F1]
                      rcases hcase with ⟨p, d, c, rfl, rfl, hd, hlc, htop⟩ | ⟨rfl, _, hof, hle, ad, rfl, hsp⟩
                      · obtain ⟨hlt, cur, xs, rest, fz, hg, hsz, hcur, hRH, _, hfz⟩ := hok
                        obtain ⟨k1, k2, k3, k4⟩ := Row.cut_rh hRH hcut (fun b hb => by cases hb)
                        have hxl : ((xs.take ((hi.den β.g.env).toNat * z)).drop ((off.den β.g.env).toNat * z)).length = (len.den β.g.env).toNat * z := by
                          rw [List.length_drop, List.length_take, Nat.min_eq_left k4, hh, Nat.add_mul]; omega
                        refine ⟨_, _, c, _, rfl, hxl.symm, hlc, ih3 _ _ _ hr k1, .inr ⟨p.b, d, rfl, ?_⟩⟩
                        by_cases hm : (len.den β.g.env).toNat = 0
                        · exact .inl hm
                        · right
                          have hd' : d = (off.den β.g.env).toNat * z := by rcases hd with h | ⟨h, _⟩; omega; exact (hm h).elim
                          refine ⟨cur, hfz (by simpa using hrw), ?_⟩
                          rw [hxl, hd', hcur, List.drop_append_of_le_length (by rw [hh, Nat.add_mul] at k4; omega), List.take_append_of_le_length (by rw [hh, Nat.add_mul] at k4; simp; omega), hh, Nat.add_mul, List.drop_take, Nat.add_sub_cancel_left]
                      · have hRH : RH β ob.row [] := hok
                        obtain ⟨k1, k2, k3, k4⟩ := Row.cut_rh hRH hcut (fun b hb => by cases hb)
                        have k1' := ih3 _ _ _ hr k1
                        simp only [List.take_nil, List.drop_nil] at k1'
                        refine ⟨[], 0, 0, ad, rfl, by simp, Nat.le_refl _, k1', ?_⟩
                        cases ad with
                        | none => exact .inl ⟨rfl, rfl, rfl⟩
                        | some ad =>
                          obtain ⟨b, d, s⟩ := ad
                          have := hsp _ rfl
                          simp only at this
                          subst this
                          exact .inr ⟨b, d, rfl, .inl rfl⟩
                    · cases h
                  · cases h
                · cases h
              · cases h
            · rename_i hco
              split at h
              · rename_i a m hao hml
                obtain rfl := litE_ok hao
                obtain rfl := litE_ok hml
                split at h
                · rename_i hc
                  simp only [Bool.and_eq_true] at hc
                  have hz0 : 0 < z := Nat.le_of_ble_eq_true hc.1
                  have hm0 : 0 < m := Nat.le_of_ble_eq_true hc.2
                  split at h
                  · rename_i cs hseg
                    split at h
                    · rename_i r' hr
                      cases h
                      simp only [F1]
                      rcases hcase with ⟨p, d, c, rfl, rfl, hd, hlc, htop⟩ | ⟨rfl, hc0, _⟩
                      · obtain ⟨hlt, cur, xs, rest, fz, hg, hsz, hcur, hRH, _, hfz⟩ := hok
                        obtain ⟨k1, k2⟩ := hRH.seg hseg (fun b hb => by cases hb)
                        simp only [E.den, Int.toNat_zero, Nat.zero_mul, Nat.zero_add] at k1 k2
                        have hpos : 0 < m * z := Nat.mul_pos hm0 hz0
                        have hfit := k2 hpos
                        have hxl : ((xs.drop (co + a * z)).take (m * z)).length = m * z := by simp; omega
                        simp only [E.den, Int.ofNat_eq_natCast, Int.toNat_natCast] at hd hlc ⊢
                        refine ⟨_, m, c, _, rfl, hxl.symm, hlc, ih3 _ _ _ hr (mkRow_ok k1), .inr ⟨p.b, d, rfl, .inr ⟨cur, hfz (by simpa using hrw), ?_⟩⟩⟩
                        have hd' : d = co + a * z := by rcases hd with h | ⟨h, _⟩; exact h; omega
                        rw [hxl, hd']
                        exact List.drop_take_pre hcur _ _ k2
                      · exact (hco hc0).elim
                    · cases h
                  · cases h
                · cases h
              · cases h
        · cases h
      · cases hc
      · cases hc
      · cases hc
      · rename_i h1 h2 h3 h4 h5
        cases h
        cases v <;> first | (exact (h1 _ _ _ _ rfl).elim) | (exact (h2 _ _ _ _ _ _ rfl).elim) | (cases hc; done) | exact hR
    · unfold deeps at h
      split at h
      · cases h
        cases xs with
        | nil => unfold Fs; trivial
        | cons => exact hF.elim
      · rename_i v l
        split at h
        · rename_i v1 l1 hv hl
          cases h
          simp only [List.all_cons, Bool.and_eq_true] at hc
          cases xs with
          | nil => exact hF.elim
          | cons x xs => unfold Fs; exact ⟨ih1 _ _ _ hv hc.1 hF.1, ih2 _ _ _ hl hc.2 hF.2⟩
        · cases h
    · unfold deepR at h
      split at h
      · rename_i cs
        split at h
        · rename_i hc
          split at h
          · rename_i cs' hcs
            cases h
            simp only [Fr]
            exact ih2 _ _ _ hcs hc (F2.R0_of (show F2 (R1 β) cs xs from hR) hc)
          · cases h
        · cases h
      · rename_i hne
        cases h
        cases r with
        | any cs => exact (hne cs rfl).elim
        | _ => exact hR
theorem deep_cells (hS : Sim ρ n β σ w) {k : Nat} {v v' : V} {x : Value} (h : deep σ k v = some v') (hc : v.cell0 = true) (hR : R0 β v x) : F1 v' β.g x := (deep_ok hS k).1 v v' x h hc hR
end
end Go.Proofs.Ytnklnboglijcbaa.E
