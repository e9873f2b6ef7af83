/- Calls whose arguments are lent, or given for good. Plain Lean over the kit's model; no program. -/
import Derived.Test.YtnklnboglijcbaaE15
import Derived.Below
namespace Go.Proofs.Ytnklnboglijcbaa.E
open Go Go.RowKit
set_option linter.unusedVariables false

/-- an argument by what stands where it points. -/
def deepA (σ : Sto) (k : Nat) (v : V) : Option V := match v with
  | .agg cs => if cs.all V.cell0 then match deeps σ k cs with
      | some cs => some (.agg cs)
      | none => none
    else none
  | .fn f a b => if a.all V.cell0 && b.all V.cell0 then match deeps σ k a, deeps σ k b with
      | some a, some b => some (.fn f a b)
      | _, _ => none
    else none
  | v => if v.cell0 then deep σ k v else none
theorem F2.ofFs {β : Bt} {vs : List V} {xs : List Value} (h : Fs vs β.g xs) : F2 (R0 β) vs xs := (Fs_iff.1 h).mono fun _ _ h => F1.up h
theorem deepA_ok {ρ : Env} {n : Nat} {β β' : Bt} {σ : Sto} {w : World} (hS : Sim ρ n β σ w) {k : Nat} {v v' : V} {x : Value} (hg : β'.g = β.g) (h : deepA σ k v = some v') (hR : R β v x) : R β' v' x := by
  have h1 : ∀ {u : V} {y : Value}, F1 u β.g y → F1 u β'.g y := fun h => by rw [hg]; exact h
  have h2 : ∀ {us : List V} {ys : List Value}, Fs us β.g ys → Fs us β'.g ys := fun h => by rw [hg]; exact h
  unfold deepA at h
  split at h
  · rename_i cs
    split at h
    · rename_i hc
      split at h
      · rename_i cs' hcs
        cases h
        obtain ⟨xs, rfl, hf⟩ := (show R2 β (.agg cs) x from hR)
        refine ⟨xs, rfl, F2.up1 (h2 ((deep_ok hS k).2.1 _ _ _ hcs hc (F2.R0_of hf hc)))⟩
      · cases h
    · cases h
  · rename_i f a b
    split at h
    · rename_i hc
      simp only [Bool.and_eq_true] at hc
      split at h
      · rename_i a' b' ha hb
        cases h
        obtain ⟨xs, ys, rfl, hf, hf'⟩ := (show R1 β (.fn f a b) x from hR)
        exact ⟨xs, ys, rfl, F2.ofFs (h2 ((deep_ok hS k).2.1 _ _ _ ha hc.1 hf)), F2.ofFs (h2 ((deep_ok hS k).2.1 _ _ _ hb hc.2 hf'))⟩
      · cases h
    · cases h
  · split at h
    · rename_i hc
      exact (F1.up (h1 ((deep_ok hS k).1 _ _ _ h hc (R.cell0 hc hR)))).toR
    · cases h
def deepsA (σ : Sto) (k : Nat) : List V → Option (List V)
  | [] => some []
  | v :: l => match deepA σ k v, deepsA σ k l with
    | some v, some l => some (v :: l)
    | _, _ => none
theorem deepsA_ok {ρ : Env} {n : Nat} {β β' : Bt} {σ : Sto} {w : World} (hS : Sim ρ n β σ w) {k : Nat} (hg : β'.g = β.g) : ∀ {vs vs' : List V} {xs : List Value}, deepsA σ k vs = some vs' → F2 (R β) vs xs → F2 (R β') vs' xs
  | [], vs', [], h, _ => by cases h; trivial
  | v :: l, vs', x :: xs, h, hF => by
    unfold deepsA at h
    split at h
    · rename_i v1 l1 hv hl
      cases h
      exact ⟨deepA_ok hS hg hv hF.1, deepsA_ok hS hg hl hF.2⟩
    · cases h

/-! ### no frozen parts -/
def V.nofz0 : V → Bool
  | .fs .. | .fe .. => false
  | _ => true
def V.nofz1 : V → Bool
  | .fn _ a b => a.all V.nofz0 && b.all V.nofz0
  | v => v.nofz0
def V.nofz2 : V → Bool
  | .agg cs => cs.all V.nofz1
  | v => v.nofz1
def V.nofz : V → Bool
  | .tup vs => vs.all V.nofz2
  | v => v.nofz2
def Row.nofz : Row → Bool
  | .any cs => cs.all V.nofz1
  | .ints _ _ => true
  | .recs _ _ _ => false
section
variable {β β' : Bt} (he : β'.g.env = β.g.env) (hk : ∀ b c, β.g.kv b = some c → β'.g.kv b = some c) (hn : ∀ id q, β.nm id = some q → β'.nm id = some q)
include he hk hn
theorem R0.nofz {v x} (h : R0 β v x) (hv : v.nofz0 = true) : R0 β' v x := by
  cases v with
  | ptr id i z c => obtain ⟨q, hq, e⟩ := h; exact ⟨q, hn _ _ hq, by rw [he]; exact e⟩
  | sl id co off len z top => obtain ⟨q, hq, r⟩ := h; exact ⟨q, hn _ _ hq, by rw [he]; exact r⟩
  | sc y => simpa only [R0, F1] using h
  | int k e => simp only [R0, F1] at h ⊢; rw [he]; exact h
  | bool b => simp only [R0, F1] at h ⊢; rw [he]; exact h
  | str l => simp only [R0, F1] at h ⊢; rw [he]; exact h
  | key c s => simp only [R0, F1] at h ⊢; obtain ⟨b, h1, h2⟩ := h; exact ⟨b, h1, by rw [he]; exact hk _ _ h2⟩
  | fs => cases hv
  | fe => cases hv
  | _ => simp only [R0, F1] at h
theorem R1.nofz {v x} (h : R1 β v x) (hv : v.nofz1 = true) : R1 β' v x := by
  cases v with
  | fn f a b =>
    obtain ⟨xs, ys, e, h1, h2⟩ := h
    have hv' : a.all V.nofz0 = true ∧ b.all V.nofz0 = true := by simpa [V.nofz1] using hv
    rw [List.all_eq_true, List.all_eq_true] at hv'
    exact ⟨xs, ys, e, h1.mono_mem fun v x hm hr => R0.nofz he hk hn hr (hv'.1 v hm), h2.mono_mem fun v x hm hr => R0.nofz he hk hn hr (hv'.2 v hm)⟩
  | _ => (simp only [R1] at h ⊢; exact R0.nofz he hk hn h hv)
theorem R2.nofz {v x} (h : R2 β v x) (hv : v.nofz2 = true) : R2 β' v x := by
  cases v with
  | agg cs =>
    obtain ⟨xs, e, h1⟩ := h
    have hv' : cs.all V.nofz1 = true := hv
    rw [List.all_eq_true] at hv'
    exact ⟨xs, e, h1.mono_mem fun v x hm hr => R1.nofz he hk hn hr (hv' v hm)⟩
  | _ => (simp only [R2] at h ⊢; exact R1.nofz he hk hn h hv)
theorem R.nofz {v x} (h : R β v x) (hv : v.nofz = true) : R β' v x := by
  cases v with
  | und => trivial
  | tup vs =>
    obtain ⟨xs, e, h1⟩ := h
    have hv' : vs.all V.nofz2 = true := hv
    rw [List.all_eq_true] at hv'
    exact ⟨xs, e, h1.mono_mem fun v x hm hr => R2.nofz he hk hn hr (hv' v hm)⟩
  | _ => (simp only [R] at h ⊢; exact R2.nofz he hk hn h hv)
theorem RH.nofz {r : Row} {xs} (h : RH β r xs) (hv : r.nofz = true) : RH β' r xs := by
  cases r with
  | any cs =>
    have hv' : cs.all V.nofz1 = true := hv
    rw [List.all_eq_true] at hv'
    exact F2.mono_mem (show F2 (R1 β) cs xs from h) fun v x hm hr => R1.nofz he hk hn hr (hv' v hm)
  | ints k l => simp only [RH, Fr] at h ⊢; rw [he]; exact h
  | recs => cases hv
end

theorem over_no_id {n : Nat} {τ σ' : Sto} {id : Nat} {o : Ob} (h : Sto.over n τ no σ' id = some o) : (n ≤ id ∧ σ' id = some o) ∨ (id < n ∧ τ id = some o) := by
  unfold Sto.over at h
  split at h
  · rename_i h1; exact .inl ⟨Nat.le_of_ble_eq_true h1, h⟩
  · rename_i h1
    have h2 : ¬ n ≤ id := fun hc => h1 (Nat.ble_eq_true_of_le hc)
    rw [if_neg (by simp [no])] at h
    exact .inr ⟨by omega, h⟩

/-- given for good. -/
theorem Spec.give {P : Program} {ρ : Env} {g : FuncId} {args dargs : List V} {n n' k : Nat} {σ σ' : Sto} {r : V} {D : List Nat} (h : Spec P ρ g dargs n no r n' σ') (hd : deepsA (frz D σ) k args = some dargs) : Spec P ρ g args n σ r n' (Sto.over n (frz D σ) no σ') := by
  refine ⟨h.there, fun β xs w hS hA => ?_⟩
  obtain ⟨β1, h1, h2, h3, h4, h5, h6⟩ := freeze_ok hS D
  have hA' : F2 (R β1) dargs xs := deepsA_ok h4 rfl hd (hA.mono fun _ _ hR => hR.mono h3)
  refine ((h.frame (no_le (frz D σ))).calls β1 xs w h4 hA').mono ?_
  rintro e w' ⟨x, β', he, hR, hS', st⟩
  exact ⟨x, β', he, hR, hS', (h5 n).trans st⟩

/-- lent. -/
theorem Spec.lend {P : Program} {ρ : Env} {g : FuncId} {args dargs : List V} {n n' k : Nat} {σ σ' : Sto} {r : V} {D : List Nat} (h : Spec P ρ g dargs n no r n' σ') (hd : deepsA (frz D σ) k args = some dargs) (hr : r.nofz = true) (hσ' : ∀ id o, σ' id = some o → o.rw = true ∧ o.row.nofz = true) :
    Spec P ρ g args n σ r n' (Sto.over n σ no σ') := by
  refine ⟨h.there, fun β xs w hS hA => ?_⟩
  obtain ⟨β1, h1, h2, h3, h4, h5, h6⟩ := freeze_ok hS D
  have hA' : F2 (R β1) dargs xs := deepsA_ok h4 rfl hd (hA.mono fun _ _ hR => hR.mono h3)
  refine (h.calls β1 xs w (h4.drop (no_le _)) hA').mono ?_
  rintro e w' ⟨x, β', he, hR, hS', st⟩
  have nowr : ∀ b, ¬ Wr β1 no b := fun b ⟨_, _, _, e, _⟩ => by cases e
  have hsame : ∀ b, b < w.heap.size → β.g.kv b = none → w'.heap[b]? = w.heap[b]? := fun b hb hk => st.fr b hb (nowr b) (by rw [h2]; exact hk)
  have hkvn : ∀ b c, β'.g.kv b = some c → β.g.kv b = some c ∨ w.heap.size ≤ b := fun b c hc => by
    rcases st.kvn b c hc with h | h | h
    · rw [h2] at h; exact .inl h
    · exact (nowr b h).elim
    · exact .inr h
  have hown : ∀ b, Wr β' σ' b → w.heap.size ≤ b := fun b hb => by
    rcases st.own b hb with h | h
    · exact (nowr b h).elim
    · exact h
  let βf : Bt := ⟨{ β'.g with fz := fun b => if b < w.heap.size then β.g.fz b else β'.g.fz b }, β'.nm⟩
  have henv : β'.g.env = β.g.env := st.le.g.env.trans h3.g.env
  have hgle : β.g.le βf.g := ⟨henv, fun b cs hb => by simp only [βf]; rw [if_pos (hS.fz_lt hb)]; exact hb, fun b c hb => st.le.g.kv b c (by rw [h2]; exact hb)⟩
  have hnm : ∀ id q, β.nm id = some q → β'.nm id = some q := fun id q hq => st.le.nm id q (hS.lt hq) (by rw [h1]; exact hq)
  have hall : β.all βf := ⟨hgle, hnm⟩
  have hWr : ∀ b, Wr βf (Sto.over n σ no σ') b → Wr β' σ' b ∨ Wr β σ b := by
    rintro b ⟨id, o, p, h, hrw, hp, rfl⟩
    rcases over_no_id h with ⟨_, h⟩ | ⟨hlt, h⟩
    · exact .inl ⟨id, o, p, h, hrw, hp, rfl⟩
    · obtain ⟨q, hq, _⟩ := hS.ob id o h
      have := hnm _ _ hq
      rw [show βf.nm id = β'.nm id from rfl, this] at hp; cases hp
      exact .inr ⟨id, o, p, h, hrw, hq, rfl⟩
  have hkv : ∀ id o p, σ id = some o → β.nm id = some (some p) → β.g.kv p.b = none := by
    intro id o p e1 e2
    cases ho : o.rw with
    | true =>
      cases e : β.g.kv p.b with
      | none => rfl
      | some c => exact ((hS.kvs _ _ e).2 ⟨id, o, p, e1, ho, e2, rfl⟩).elim
    | false =>
      obtain ⟨q, hq, hok⟩ := hS.ob id o e1
      rw [e2] at hq; cases hq
      obtain ⟨_, cur, xs, rest, fz, _, _, _, _, _, h6⟩ := hok
      exact (hS.fzs _ _ (h6 ho)).2.2
  refine ⟨x, βf, he, R.nofz (β := β') (β' := βf) rfl (fun _ _ h => h) (fun _ _ h => h) hR hr, ⟨⟨hS'.env, ?_, ?_, ?_, ?_⟩, hS'.fresh⟩, ⟨⟨hgle, fun id q _ hq => hnm id q hq⟩, st.os, st.tape, st.output, st.size, fun b hb _ hk => hsame b hb hk, ?_, ?_, ?_⟩⟩
  · intro id o h
    rcases over_no_id h with ⟨_, h⟩ | ⟨hlt, h⟩
    · obtain ⟨q, hq, hok⟩ := hS'.ob id o h
      obtain ⟨hrw, hz⟩ := hσ' id o h
      refine ⟨q, hq, ?_⟩
      cases q with
      | none => exact RH.nofz (β := β') (β' := βf) rfl (fun _ _ h => h) (fun _ _ h => h) hok hz
      | some p =>
        obtain ⟨k1, cur, xs, rest, fz, k2, k3, k4, k5, k6, k7⟩ := hok
        exact ⟨k1, cur, xs, rest, fz, k2, k3, k4, RH.nofz (β := β') (β' := βf) rfl (fun _ _ h => h) (fun _ _ h => h) k5 hz, k6, fun hf => by rw [hrw] at hf; cases hf⟩
    · obtain ⟨q, hq, hok⟩ := hS.ob id o h
      refine ⟨q, hnm _ _ hq, hok.keep (fun xs hx => hx.mono hall) hgle.fz st.size ?_⟩
      rintro p rfl
      exact hsame p.b hok.1 (hkv id o p h hq)
  · intro id o id' o' p p' h hrw h' hne hp hp'
    rcases over_no_id h with ⟨_, h⟩ | ⟨hlt, h⟩ <;> rcases over_no_id h' with ⟨_, h'⟩ | ⟨hlt', h'⟩
    · exact hS'.sep id o id' o' p p' h hrw h' hne hp hp'
    · obtain ⟨q', hq', hok'⟩ := hS.ob id' o' h'
      have := hnm _ _ hq'
      rw [show βf.nm id' = β'.nm id' from rfl, this] at hp'; cases hp'
      have := hown p.b ⟨id, o, p, h, hrw, hp, rfl⟩
      have := hok'.1
      omega
    · obtain ⟨q, hq, hok⟩ := hS.ob id o h
      have := hnm _ _ hq
      rw [show βf.nm id = β'.nm id from rfl, this] at hp; cases hp
      have := hown p'.b ⟨id', o', p', h', (hσ' _ _ h').1, hp', rfl⟩
      have := hok.1
      omega
    · obtain ⟨q, hq, hok⟩ := hS.ob id o h
      have := hnm _ _ hq
      rw [show βf.nm id = β'.nm id from rfl, this] at hp; cases hp
      obtain ⟨q', hq', hok'⟩ := hS.ob id' o' h'
      have := hnm _ _ hq'
      rw [show βf.nm id' = β'.nm id' from rfl, this] at hp'; cases hp'
      exact hS.sep id o id' o' p p' h hrw h' hne hq hq'
  · intro b cs hb
    by_cases hlt : b < w.heap.size
    · simp only [βf, if_pos hlt] at hb
      obtain ⟨⟨et, f, k1⟩, k2, k3⟩ := hS.fzs b cs hb
      refine ⟨⟨et, f, (hsame b hlt k3).trans k1⟩, fun hc => ?_, ?_⟩
      · rcases hWr b hc with hc | hc
        · have := hown b hc; omega
        · exact k2 hc
      · show β'.g.kv b = none
        cases hk : β'.g.kv b with
        | none => rfl
        | some c =>
          rcases hkvn b c hk with h | h
          · rw [k3] at h; cases h
          · omega
    · simp only [βf, if_neg hlt] at hb
      obtain ⟨k1, k2, k3⟩ := hS'.fzs b cs hb
      refine ⟨k1, fun hc => ?_, k3⟩
      rcases hWr b hc with hc | hc
      · exact k2 hc
      · exact hlt (hS.wr_lt hc)
  · intro b c hb
    obtain ⟨k1, k2⟩ := hS'.kvs b c hb
    refine ⟨k1, fun hc => ?_⟩
    rcases hWr b hc with hc | hc
    · exact k2 hc
    · rcases hkvn b c hb with h | h
      · exact (hS.kvs b c h).2 hc
      · have := hS.wr_lt hc; omega
  · intro b hb
    rcases hWr b hb with hc | hc
    · exact .inr (hown b hc)
    · exact .inl hc
  · intro b c hb
    by_cases hlt : b < w.heap.size
    · simp only [βf, if_pos hlt] at hb; exact .inl hb
    · exact .inr (.inr (by omega))
  · intro b c hb
    rcases hkvn b c hb with h | h
    · exact .inl h
    · exact .inr (.inr h)

/-! ### laws -/
def nob (ρ : Env) : Bt := ⟨⟨ρ, fun _ => none, fun _ => none⟩, fun _ => none⟩
/-- all memory stays as it is. -/
def allFz (ρ : Env) (w : World) : Bt := ⟨⟨ρ, fun b => match w.heap[b]? with | some (.cells cur _ _) => some cur | _ => none, fun _ => none⟩, fun _ => none⟩
theorem Sim.allFz (ρ : Env) (n : Nat) (w : World) : Sim ρ n (allFz ρ w) no w := by
  refine ⟨⟨rfl, fun _ _ h => (by cases h), fun _ _ _ _ _ _ h => (by cases h), fun b cs h => ?_, fun b c h => (by cases h)⟩, fun _ _ => rfl⟩
  simp only [E.allFz] at h
  split at h
  · rename_i cur e f hc
    cases h
    refine ⟨⟨e, f, hc⟩, fun hw => ?_, rfl⟩
    obtain ⟨_, _, _, e, _⟩ := hw
    cases e
  · cases h
theorem Step.below {ρ : Env} {n : Nat} {β' : Bt} {σ' : Sto} {w w' : World} (h : Step n (allFz ρ w) no w β' σ' w') : Below w.heap.size w w' :=
  ⟨h.os, h.tape, h.output, h.size, fun k hk => h.fr k hk (fun ⟨_, _, _, e, _⟩ => by cases e) rfl⟩
/-- a law, from a contract without objects. -/
theorem Spec.law {P : Program} {ρ : Env} {f : FuncId} {args : List V} {xs : List Value} {n n' : Nat} {σ' : Sto} {b : B} (h : Spec P ρ f args n no (.bool b) n' σ') (hb : b.den ρ = true) (W : World) (hA : F2 (R (allFz ρ W)) args xs) :
    Calls P f xs.toArray W (fun e W' => e = .returned (.bool true) ∧ Below W.heap.size W W') :=
  (h.calls (allFz ρ W) xs W (Sim.allFz ρ n W) hA).mono fun e W' ⟨x, β', he, hR, hS, st⟩ => ⟨by rw [he, R_bool hR, hS.env, hb], st.below⟩
end Go.Proofs.Ytnklnboglijcbaa.E
