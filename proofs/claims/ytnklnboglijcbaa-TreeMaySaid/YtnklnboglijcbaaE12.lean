/- Append, make, copy; strings. Plain Lean over the kit's model; no program. -/
import Derived.Test.YtnklnboglijcbaaE11
namespace Go.Proofs.Ytnklnboglijcbaa.E
open Go Go.RowKit
set_option linter.unusedVariables false

/-! ### rows joined -/
def mkCat : L → L → L
  | .nil, b => b
  | .cons e l, b => .cons e (mkCat l b)
  | a, .nil => a
  | a, b => .cat a b
theorem mkCat_den (ρ : Env) : ∀ (a b : L), (mkCat a b).den ρ = a.den ρ ++ b.den ρ
  | .nil, b => by simp [mkCat, L.den]
  | .cons e l, b => by simp [mkCat, L.den, mkCat_den ρ l b]
  | .var _, b | .at .., b | .cat .., b | .cut .., b | .sub .., b | .set .., b | .rep .., b | .byt .., b | .app .., b | .ite .., b => by
    cases b <;> simp [mkCat, L.den]
def Row.asInts (k : IntKind) : Row → Option L
  | .ints k' l => if Nat.beq (kN k) (kN k') then some l else none
  | .any cs => if allKind k cs then match intsAll cs with
      | some es => some (consL es)
      | none => none
    else none
  | .recs .. => none
theorem Row.asInts_ok {β : Bt} {k : IntKind} {r : Row} {l : L} {xs : List Value} (h : RH β r xs) (hr : r.asInts k = some l) : xs = (l.den β.g.env).map (.int k) := by
  cases r with
  | any cs =>
    unfold Row.asInts at hr
    simp only at hr
    split at hr
    · rename_i hk
      split at hr
      · rename_i es he
        cases hr
        obtain ⟨h1, h2⟩ := ints_F2 h hk he
        rw [h1, consL_den, List.map_map]; rfl
      · cases hr
    · cases hr
  | ints k' l' =>
    unfold Row.asInts at hr
    simp only at hr
    split at hr
    · rename_i hk
      cases hr
      have := kN_inj hk
      subst this
      simpa only [RH, Fr] using h
    · cases hr
  | recs => cases hr
def Row.isAny : Row → Option (List V)
  | .any cs => some cs
  | _ => none
/-- one behind the other. -/
def Row.app (r1 r2 : Row) : Option Row := match r1, r2 with
  | .any [], r => some r
  | r, .any [] => some r
  | .ints k l, r => match r.asInts k with
    | some l' => some (.ints k (mkCat l l'))
    | none => none
  | .any cs, .ints k l => match (Row.any cs).asInts k with
    | some l' => some (.ints k (mkCat l' l))
    | none => none
  | .any cs, .any ds => some (mkRow (cs ++ ds))
  | _, _ => none
theorem Row.app_ok {β : Bt} {r1 r2 r : Row} {xs ys : List Value} (h : Row.app r1 r2 = some r) (h1 : RH β r1 xs) (h2 : RH β r2 ys) : RH β r (xs ++ ys) := by
  have e0 : ∀ zs, RH β (.any []) zs → zs = [] := fun zs hz => by
    have hz : F2 (R1 β) [] zs := hz
    cases zs with
    | nil => rfl
    | cons => exact hz.elim
  unfold Row.app at h
  split at h
  · cases h
    rw [e0 _ h1]; exact h2
  · cases h
    rw [e0 _ h2, List.append_nil]; exact h1
  · split at h
    · rename_i k l _ _ l' hl
      cases h
      have hx : xs = (l.den β.g.env).map (.int k) := by simpa only [RH, Fr] using h1
      rw [hx, Row.asInts_ok h2 hl]
      simp only [RH, Fr, mkCat_den, List.map_append]
    · cases h
  · split at h
    · rename_i cs k l _ _ l' hl
      cases h
      have hx : ys = (l.den β.g.env).map (.int k) := by simpa only [RH, Fr] using h2
      rw [hx, Row.asInts_ok h1 hl]
      simp only [RH, Fr, mkCat_den, List.map_append]
    · cases h
  · cases h
    exact mkRow_ok (F2.app h1 h2)
  · cases h

/-- a type's cells, where a slice of it may grow. -/
def elOk (P : Program) (e : TypeId) : Option Nat := match P.info? e with
  | some i => match i.zero with
    | some z => if Nat.beq z.cells.size i.size && Nat.blt 0 i.size && Nat.ble i.bytes 131072 then some i.size else none
    | none => none
  | none => none
theorem elOk_ok {P : Program} {e z : Nat} (h : elOk P e = some z) : ∃ i zv, P.info? e = some i ∧ i.zero = some zv ∧ i.size = z ∧ i.bytes ≤ 131072 ∧ zv.cells.size = z ∧ 0 < z := by
  unfold elOk at h
  split at h
  · rename_i i hi
    split at h
    · rename_i zv hz
      split at h
      · rename_i hc
        simp only [Bool.and_eq_true] at hc
        cases h
        exact ⟨i, zv, hi, hz, rfl, Nat.le_of_ble_eq_true hc.2, Nat.eq_of_beq_eq_true hc.1.1, Nat.le_of_ble_eq_true hc.1.2⟩
      · cases h
    · cases h
  · cases h
/-- where an append begins: the row ahead; the name that dies. -/
def baseOf (σ : Sto) (z : Nat) (e : TypeId) : V → Option (Row × E × Option Nat × List B)
  | .sc (.slice none 0 0) => some (.any [], .lit 0, none, [])
  | .sl id co off len z' top => if top && Nat.beq z z' && Nat.beq co 0 && off.same (.lit 0) then match σ id with
      | some ob => if ob.rw && Nat.beq ob.e e then match ob.row.cut z (.lit 0) len with
          | some (r, bs) => some (r, len, some id, mkNot (mkLt len (.lit 0)) :: bs)
          | none => none
        else none
      | none => none
    else none
  | _ => none
def delO (σ : Sto) : Option Nat → Sto
  | none => σ
  | some id => σ.del id
theorem delO_le (σ : Sto) (d : Option Nat) : (delO σ d).le σ := by
  cases d with
  | none => exact Sto.le.refl σ
  | some id => exact del_le σ id
def smallE (e : E) : B := mkLt e (.lit 1073741824)

section
variable {P : Program} {ρ : Env} {o : Oper} {fr : Fm} {n : Nat} {σ : Sto}

theorem TOp.append {x y : Operand} {t u e : TypeId} {z : Nat} {r1 r2 r : Row} {n1 n2 len : E} {d : Option Nat} {b1 b2 : List B} (h : o.op = .call { callee := .builtin .append, args := #[x, y], argTypes := #[t, u] }) (hu : P.underlying t = some (.slice e)) (hz : elOk P e = some z)
    (hku : (∃ e', P.underlying u = some (.slice e')) ∨ P.underlying u = some .string)
    (hx : baseOf σ z e (opd fr x) = some (r1, n1, d, b1)) (hy : srcOf σ z (opd fr y) = some (r2, n2, b2)) (hr : Row.app r1 r2 = some r) (hlen : r.lenE z = some len)
    (hb1 : ∀ b ∈ b1, b.den ρ = true) (hb2 : ∀ b ∈ b2, b.den ρ = true) (hsm : (smallE len).den ρ = true) :
    TOp P ρ o fr n σ (.sl n 0 (.lit 0) len z true) (n + 1) ((delO σ d).put n ⟨r, true, e⟩) := by
  intro β a w K Q hS ho hk
  have hρ := hS.env
  have g1 := ho x (by rw [h]; simp [Op.operands, Call.operands])
  have g2 := ho y (by rw [h]; simp [Op.operands, Call.operands])
  obtain ⟨m, news, hsrc, hm, hRH2⟩ := src_ok (P := P) hS g2 hy hb2 hku
  obtain ⟨i, zv, hi, hzv, hsize, hbytes, hzs, hpos⟩ := elOk_ok hz
  subst hsize
  -- what is ahead
  have base : ∃ (ad : Option Addr) (k c : Nat) (olds : List Value), a.eval x = .slice ad k c ∧ olds.length = k * i.size ∧ RH β r1 olds ∧ k ≤ c ∧ (Builtin.firstCells i.size k (.slice ad k c)).run P w.drew = .ok olds.toArray w.drew ∧
      ((d = none ∧ ad = none ∧ c = 0) ∨ (∃ id ob, d = some id ∧ σ id = some ob ∧ ob.rw = true ∧ ((β.nm id = some none ∧ c = 0 ∧ ∀ a', ad = some a' → a'.spot = none) ∨
        ∃ p cur, β.nm id = some (some p) ∧ ad = some ⟨p.b, 0, none⟩ ∧ c ≤ maxLen ∧ c * i.size = p.s ∧ w.heap[p.b]? = some (.cells cur e (0, 0)) ∧ cur.size = p.s ∧ cur.toList.take (k * i.size) = olds))) := by
    unfold baseOf at hx
    split at hx
    · rename_i hv
      cases hx
      rw [hv] at g1
      refine ⟨none, 0, 0, [], R_sc g1, by simp, trivial, Nat.le_refl _, ?_, .inl ⟨rfl, rfl, rfl⟩⟩
      simp [Builtin.firstCells]
    · rename_i id co off len' z' top hv
      split at hx
      · rename_i hc
        simp only [Bool.and_eq_true] at hc
        obtain ⟨⟨⟨ht, hzz⟩, hco⟩, hoff⟩ := hc
        subst ht
        obtain rfl := Nat.eq_of_beq_eq_true hzz
        obtain rfl := Nat.eq_of_beq_eq_true hco
        obtain rfl := E.same_ok hoff
        split at hx
        · rename_i ob hob
          split at hx
          · rename_i hrw
            simp only [Bool.and_eq_true] at hrw
            split at hx
            · rename_i r' bs' hcut
              cases hx
              rw [hv] at g1
              have hcb : ∀ b ∈ bs', b.den β.g.env = true := fun b hmem => by rw [hρ]; exact hb1 b (by simp [hmem])
              obtain ⟨q, hq, hl0, hcase⟩ := (show R0 β (.sl id 0 (.lit 0) n1 i.size true) (a.eval x) from g1)
              obtain ⟨q0, hq0, hok⟩ := hS.ob id ob hob
              obtain rfl : q0 = q := Option.some.inj (hq0.symm.trans hq)
              rcases hcase with ⟨p, dd, c, rfl, e1, hd, hlc, htop⟩ | ⟨rfl, _, _, hle, ad, e1, hsp⟩
              · obtain ⟨_, _, hcs, hcm⟩ := htop rfl
                obtain ⟨hlt, cur, xs, rest, fz, hg, hsz, hcur, hRH, hfz, _⟩ := hok
                obtain rfl := hfz hrw.1
                obtain ⟨k1, k2, k3, k4⟩ := Row.cut_rh hRH hcut hcb
                simp only [E.den, Int.toNat_zero, Nat.zero_mul, List.drop_zero, Nat.zero_add] at k1 hd
                obtain rfl : dd = 0 := by rcases hd with h | ⟨_, h⟩; exact h; cases h
                have hl : (xs.take ((n1.den β.g.env).toNat * i.size)).length = (n1.den β.g.env).toNat * i.size := by rw [List.length_take]; exact Nat.min_eq_left k4
                have htk : cur.toList.take ((n1.den β.g.env).toNat * i.size) = xs.take ((n1.den β.g.env).toNat * i.size) := by rw [hcur, List.take_append_of_le_length k4]
                have hcell : ∀ j u, (xs.take ((n1.den β.g.env).toNat * i.size))[j]? = some u → w.drew.cell? (Addr.add ⟨p.b, 0, none⟩ j) = some u := by
                  intro j u hu
                  rw [← htk, List.getElem?_take] at hu
                  split at hu
                  · rw [Addr.add_lit, World.cell?_drew, Nat.zero_add, cell_of_row w p.b j cur ob.e (0, 0) hg]
                    simpa using hu
                  · cases hu
                have hee := Nat.eq_of_beq_eq_true hrw.2
                rw [hee] at hg
                exact ⟨_, _, c, _, e1, hl, k1, hlc, run_firstCells_some w.drew i.size _ _ _ c _ hl hcell, .inr ⟨id, ob, rfl, hob, hrw.1, .inr ⟨p, cur, hq, rfl, hcm, hcs, hg, hsz, htk⟩⟩⟩
              · have hRH : RH β ob.row [] := hok
                obtain ⟨k1, k2, k3, k4⟩ := Row.cut_rh hRH hcut hcb
                refine ⟨ad, 0, 0, [], e1, by simp, by simpa using k1, Nat.le_refl _, ?_, .inr ⟨id, ob, rfl, hob, hrw.1, .inl ⟨hq, rfl, hsp⟩⟩⟩
                cases ad <;> simp [Builtin.firstCells, loadCells, loadCellsFrom]
            · cases hx
          · cases hx
        · cases hx
      · cases hx
    · cases hx
  obtain ⟨ad, k, c, olds, e1, hol, hRH1, hkc, hfirst, hwhere⟩ := base
  have hRH : RH β r (olds ++ news) := Row.app_ok hr hRH1 hRH2
  obtain ⟨hz0, hl0, hlen'⟩ := Row.lenE_ok hRH hlen
  have hnl : news.length = m * i.size := hsrc.newsLen
  have hkm : (len.den β.g.env).toNat = k + m := by
    refine Nat.eq_of_mul_eq_mul_right hz0 (hlen'.symm.trans ?_)
    rw [List.length_append, hol, hnl, Nat.add_mul]
  have hsmall : k + m < 1073741824 := by
    unfold smallE at hsm
    rw [mkLt_den, ltb_eq] at hsm
    have := of_decide_eq_true hsm
    rw [hρ] at hkm
    simp only [E.den] at this
    omega
  have hexec : ∀ {v' : Value} {w' : World}, (Builtin.append_ #[t, u] o.type #[.slice ad k c, a.eval y]).run P w = .ok v' w' → (execOp a.eval o).run P w = .ok (.value v') w' := by
    intro v' w' hr'
    unfold execOp
    rw [h]
    simp only [resolve, invoke, builtin, Sem.run_bind, Sem.run_pure, Result.andThen_ok, List.map_toArray, List.map_cons, List.map_nil, e1, hr']
  have hτ := delO_le σ d
  -- a new row
  have grow : c < k + m → o.wp P a w K Q := by
    intro hc
    have hbig : (k + m) * i.bytes ≤ 140737488355328 := by
      have : (k + m) * i.bytes ≤ 1073741824 * 131072 := Nat.mul_le_mul (by omega) hbytes
      omega
    have hr' := run_append_grow_src (P := P) w t u o.type e i zv hu hi hzv ad k c olds hfirst (a.eval y) m news hsrc hc (by omega) (growslice_fits hc hbig)
    have hge := grownCap_ge w (k + m) c e
    have hcm : grownCap w (k + m) c e ≤ maxLen := grownCap_le_maxLen w (k + m) c e (by unfold maxLen; omega)
    generalize hcap : grownCap w (k + m) c e = cap at *
    generalize hcells : (olds ++ news).toArray ++ Builtin.zeroCells zv.cells (cap - (k + m)) = cells at *
    have hcl : cells.toList = (olds ++ news) ++ (Builtin.zeroCells zv.cells (cap - (k + m))).toList := by rw [← hcells]; simp
    have hsz : cells.size = cap * i.size := by
      rw [← hcells]
      simp only [Array.size_append, List.size_toArray, List.length_append, size_zeroCells, hzs, hol, hnl, ← Nat.add_mul]
      congr 1
      omega
    obtain ⟨β', hg', hn, hS', hst⟩ := new_in (w' := w.drew.alloc (.cells cells e)) hS hτ e r (some ⟨w.heap.size, cells.size⟩)
      (fun β' hb => ⟨by simp, cells, _, _, (0, 0), heap_alloc_new w.drew _, rfl, hcl, hRH.mono hb, fun _ => rfl, fun h => by cases h⟩)
      (fun p hp => .inl (by cases hp; exact Nat.le_refl _)) (by simp) (fun b hb _ => heap_alloc_old w.drew _ b hb) rfl rfl rfl
    refine wp_val (hexec hr') (hk _ β' _ ?_ hS' hst)
    refine ⟨_, hn, by rw [hg']; exact hl0, .inl ⟨_, 0, cap, rfl, ?_, .inl (by simp [E.den]), by rw [hg', hkm]; exact hge, fun _ => ⟨rfl, by simp [E.den], hsz.symm, hcm⟩⟩⟩
    rw [hg', hkm]
  -- nothing at all
  have none_ : ∀ (ad' : Option Addr), ad = ad' → c = 0 → k + m = 0 → (∀ a', ad = some a' → a'.spot = none) → o.wp P a w K Q := by
    intro ad' _ hc0 hkm0 hsp
    have hn0 : news = [] := List.eq_nil_of_length_eq_zero (by rw [hnl, show m = 0 by omega, Nat.zero_mul])
    have ho0 : olds = [] := List.eq_nil_of_length_eq_zero (by rw [hol, show k = 0 by omega, Nat.zero_mul])
    obtain rfl : k = 0 := by omega
    obtain rfl : m = 0 := by omega
    subst hc0
    have hr' : (Builtin.append_ #[t, u] o.type #[.slice ad 0 0, a.eval y]).run P w = .ok (.slice ad 0 0) w := by
      have hcl := hsrc.cells
      rw [hn0] at hcl
      rcases hsrc.kind with ⟨e', hk'⟩ | hk' <;> cases ad <;> simp [Builtin.append_, run_underlying hu, run_underlying hk', sizeOf, typeInfo, hi, hsrc.len, hcl, storeCells]
    obtain ⟨β', hg', hn, hS', hst⟩ := new_in (w' := w) hS hτ e r none (fun β' hb => (by rw [hn0, ho0] at hRH; simpa using hRH.mono hb : RH β' r []))
      (fun p hp => by cases hp) (Nat.le_refl _) (fun b hb _ => rfl) rfl rfl rfl
    refine wp_val (hexec hr') (hk _ β' _ ?_ hS' hst)
    exact ⟨_, hn, by rw [hg']; exact hl0, .inr ⟨rfl, rfl, by simp [E.den], by rw [hg']; exact hkm, ad, rfl, hsp⟩⟩
  rcases hwhere with ⟨rfl, rfl, rfl⟩ | ⟨id, ob, rfl, hob, hrw, hcase⟩
  · by_cases h0 : k + m = 0
    · exact none_ none rfl rfl h0 (fun a' h => by cases h)
    · exact grow (by omega)
  · rcases hcase with ⟨hnm, rfl, hsp⟩ | ⟨p, cur, hnm, rfl, hcm, hcs, hg, hsz, htk⟩
    · by_cases h0 : k + m = 0
      · exact none_ ad rfl rfl h0 hsp
      · exact grow (by omega)
    · by_cases hroom : k + m ≤ c
      · -- there is room
        have hfit : k * i.size + news.length ≤ cur.size := by rw [hnl, hsz, ← hcs, ← Nat.add_mul]; exact Nat.mul_le_mul_right _ hroom
        have hst := run_storeCells_at P p.b (k * i.size) e news 0 cur w hg (by simpa using hfit) hsrc.one
        simp only [Nat.add_zero] at hst
        generalize hcur' : (cur.toList.take (k * i.size) ++ news ++ cur.toList.drop (k * i.size + news.length)) = cur' at hst
        have hr' : (Builtin.append_ #[t, u] o.type #[.slice (some ⟨p.b, 0, none⟩) k c, a.eval y]).run P w = .ok (.slice (some ⟨p.b, 0, none⟩) (k + m) c) (w.setRow p.b cur'.toArray) := by
          rcases hsrc.kind with ⟨e', hk'⟩ | hk' <;> simp [Builtin.append_, run_underlying hu, run_underlying hk', sizeOf, typeInfo, hi, hsrc.len, hroom, hsrc.cells, Addr.add_lit, hst]
        have hsz' : cur'.length = p.s := by rw [← hcur']; simp; omega
        obtain ⟨β', hg', hn, hS', hst'⟩ := new_in (w' := w.setRow p.b cur'.toArray) hS hτ e r (some ⟨p.b, p.s⟩)
          (fun β' hb => ⟨by
            have hlt : p.b < w.heap.size := hS.wr_lt ⟨id, ob, p, hob, hrw, hnm, rfl⟩
            simpa using hlt, cur'.toArray, olds ++ news, cur.toList.drop (k * i.size + news.length), (0, 0), setRow_heap w p.b cur _ e _ hg, by simpa using hsz', by rw [← hcur', htk], hRH.mono hb, fun _ => rfl, fun h => by cases h⟩)
          (fun q hq => .inr ⟨id, ob, p, hob, hrw, hnm, by cases hq; rfl, by simp [delO, Sto.del]⟩) (by simp) (fun b hb hne => setRow_other w p.b b _ (hne _ rfl)) rfl rfl rfl
        refine wp_val (hexec hr') (hk _ β' _ ?_ hS' hst')
        refine ⟨_, hn, by rw [hg']; exact hl0, .inl ⟨_, 0, c, rfl, ?_, .inl (by simp [E.den]), by rw [hg', hkm]; exact hroom, fun _ => ⟨rfl, by simp [E.den], hcs, hcm⟩⟩⟩
        rw [hg', hkm]
      · exact grow (by omega)
end
end Go.Proofs.Ytnklnboglijcbaa.E
