-- PRINTED BY print.sh 35421559b90ae4d0a3588c463048766b98c2df88dd9212a6774a882060cdf62d: not written by this session
import Derived.Test.YtongkjihhkgpnabPPowerTurnedx0
import Derived.Test.YtongkjihhkgpnabPPowerTurnedx1
namespace Go.Proofs.Ytongkjihhkgpnab.PPowerTurned
open Go.RowKit Go.Proofs.YtongkjihhkgpnabW.PrintWords Go.Proofs.YtongkjihhkgpnabW.PrintLast Go.Proofs.YtongkjihhkgpnabW.PrintMore
attribute [local go_sem] max2_int min2_int max_two min_two max_three min_three max_four min_four   -- for this text's walks alone
set_option linter.unusedVariables false
set_option linter.unusedSimpArgs false

/-! ### curialaw2_PowerTurned: function 5 -/
def curialaw2_PowerTurned.j0 : Nat → Int → Bool → Option (Bool)
  | 0, _, _ => none
  | k + 1, x0, x9 => if x9 = true then (some true) else ((curiaref2_Pow.f k 4 x0).bind fun t118 => ((power_Is.f k t118).bind fun t119 => (if t119 = true then ((power_Is.f k (wrap64 (2147483579 - t118))).bind fun t120 => (if t120 = true then (some false) else ((power_Pow.f k (wrap64 (2147483579 - t118)) 1073741789).bind fun t121 => (if t121 = 2147483578 then ((curialaw2_known.f k).bind fun t122 => (some t122)) else (some false))))) else (some false))))
def curialaw2_PowerTurned.f (k : Nat) (a0 : Int) : Option (Bool) := if a0 < 1 then (curialaw2_PowerTurned.j0 k a0 true) else (curialaw2_PowerTurned.j0 k a0 (decide (a0 ≥ 1073741789)))
theorem curialaw2_PowerTurned.mono_l : ∀ k, (∀ y0 y1, LeO (curialaw2_PowerTurned.j0 k y0 y1) (curialaw2_PowerTurned.j0 (k + 1) y0 y1))
  | 0 => fun _ _ r h => by simp [curialaw2_PowerTurned.j0] at h
  | k + 1 => by
    have ih0 := curialaw2_PowerTurned.mono_l k
    · intro y0 y1
      unfold curialaw2_PowerTurned.j0
      repeat' first
      | (with_reducible exact ih0 _ _)
      | (with_reducible exact curialaw2_known.mono _)
      | (with_reducible exact curiaref2_Pow.mono _ _ _)
      | (with_reducible exact power_Is.mono _ _)
      | (with_reducible exact power_Pow.mono _ _ _)
      | (with_reducible exact LeO.refl _)
      | (with_reducible exact LeO.none _)
      | (with_reducible refine LeO.ite ?_ ?_)
      | (with_reducible refine LeO.bind ?_ (fun _ => ?_))
      | exact ih0 _ _
      | exact curialaw2_known.mono _
      | exact curiaref2_Pow.mono _ _ _
      | exact power_Is.mono _ _
      | exact power_Pow.mono _ _ _
      | exact LeO.none _
      | refine LeO.ite ?_ ?_
      | refine LeO.bind ?_ (fun _ => ?_)
theorem curialaw2_PowerTurned.mono : ∀ a0 k, LeO (curialaw2_PowerTurned.f k a0) (curialaw2_PowerTurned.f (k + 1) a0) := by
  intro a0 k
  have ih0 := curialaw2_PowerTurned.mono_l k
  unfold curialaw2_PowerTurned.f
  repeat' first
      | (with_reducible exact ih0 _ _)
      | (with_reducible exact curialaw2_known.mono _)
      | (with_reducible exact curiaref2_Pow.mono _ _ _)
      | (with_reducible exact power_Is.mono _ _)
      | (with_reducible exact power_Pow.mono _ _ _)
      | (with_reducible exact LeO.refl _)
      | (with_reducible exact LeO.none _)
      | (with_reducible refine LeO.ite ?_ ?_)
      | (with_reducible refine LeO.bind ?_ (fun _ => ?_))
      | exact ih0 _ _
      | exact curialaw2_known.mono _
      | exact curiaref2_Pow.mono _ _ _
      | exact power_Is.mono _ _
      | exact power_Pow.mono _ _ _
      | exact LeO.none _
      | refine LeO.ite ?_ ?_
      | refine LeO.bind ?_ (fun _ => ?_)
set_option maxHeartbeats 8000000 in
set_option maxRecDepth 100000 in
theorem curialaw2_PowerTurned.calls (k : Nat) (a0 : Int) (r : Bool) (w : World) (h : curialaw2_PowerTurned.f k a0 = some r) :
    Calls Try.prog 5 #[.int .i64 a0] w fun e w' => e = .returned (.bool r) ∧ Drawn0 w w' := by
  have H : (if a0 < 1 then (curialaw2_PowerTurned.j0 k a0 true) else (curialaw2_PowerTurned.j0 k a0 (decide (a0 ≥ 1073741789)))) = some r := h
  clear h
  have HC2 := Aside0.mk H
  clear H
  go_enter Try.func5, Try.ntmps5
  go_upto_region 1 with (fail)
  go_cut [9] (fun v9 wc => ∃ (kq : Nat) (x9_1 : Bool), v9 = .bool x9_1 ∧ Aside0 (curialaw2_PowerTurned.j0 kq a0 x9_1 = some r) ∧ Aside0 (kq ≤ k) ∧ Drawn0 w wc)
  case first =>
    have H := HC2.out
    clear HC2
    by_cases c3 : a0 < 1
    · rw [if_pos c3] at H
      have c3b0 : decide (a0 < 1) = true := decide_eq_true c3
      clear c3
      (first | rw [c3b0] | (simp only [i64_w, i32_w]; rw [c3b0]) | skip)
      have H' := Aside0.mk H
      clear H
      go_wp2
      go_meet
      case rel => exact ⟨_, (true), (by first | rfl | (simp; done) | (simp [*]; done)), H', ⟨by first | omega | exact Nat.le_refl _⟩, by repeat (first | exact Drawn0.refl _ | apply Drawn0.step)⟩
    · rw [if_neg c3] at H
      have c3b0 : decide (a0 < 1) = false := decide_eq_false c3
      clear c3
      (first | rw [c3b0] | (simp only [i64_w, i32_w]; rw [c3b0]) | skip)
      have H' := Aside0.mk H
      clear H
      go_wp2
      go_meet
      case rel => exact ⟨_, (decide (a0 ≥ 1073741789)), (by first | rfl | (simp; done) | (simp [*]; done)), H', ⟨by first | omega | exact Nat.le_refl _⟩, by repeat (first | exact Drawn0.refl _ | apply Drawn0.step)⟩
  case rest =>
    clear HC2
    try clear p2
    try clear c3
    try clear c3b0
    obtain ⟨kq, x9_1, rfl, HA, HJ1, ⟨mc1, rfl⟩⟩ := hcut
    cases kq with
    | zero => exact absurd HA.out (by simp [curialaw2_PowerTurned.j0])
    | succ kj1 =>
      have H := HA.out
      clear HA
      simp only [curialaw2_PowerTurned.j0] at H
      by_cases c4 : x9_1 = true
      · subst c4
        have H1 : (some true) = some r := by rw [if_pos rfl] at H; exact H
        clear H
        have H := H1
        clear H1
        obtain rfl := Option.some.inj H
        go_wp2
        go_ret
        exact ⟨by first | rfl | (simp; done) | (simp [*]; done), by repeat (first | exact Drawn0.refl _ | apply Drawn0.step)⟩
      · replace c4 := Bool.eq_false_iff.mpr c4
        subst c4
        have H1 : ((curiaref2_Pow.f kj1 4 a0).bind fun t118 => ((power_Is.f kj1 t118).bind fun t119 => (if t119 = true then ((power_Is.f kj1 (wrap64 (2147483579 - t118))).bind fun t120 => (if t120 = true then (some false) else ((power_Pow.f kj1 (wrap64 (2147483579 - t118)) 1073741789).bind fun t121 => (if t121 = 2147483578 then ((curialaw2_known.f kj1).bind fun t122 => (some t122)) else (some false))))) else (some false)))) = some r := by rw [if_neg (show ¬ (false = true) by decide)] at H; exact H
        clear H
        have H := H1
        clear H1
        replace H := Option.bind_eq_some_iff.mp H
        obtain ⟨t118, A50, H⟩ := H
        replace H : ((power_Is.f kj1 t118).bind fun t119 => (if t119 = true then ((power_Is.f kj1 (wrap64 (2147483579 - t118))).bind fun t120 => (if t120 = true then (some false) else ((power_Pow.f kj1 (wrap64 (2147483579 - t118)) 1073741789).bind fun t121 => (if t121 = 2147483578 then ((curialaw2_known.f kj1).bind fun t122 => (some t122)) else (some false))))) else (some false))) = some r := H
        have A5 := Aside0.mk A50
        clear A50
        replace H := Option.bind_eq_some_iff.mp H
        obtain ⟨t119, A60, H⟩ := H
        replace H : (if t119 = true then ((power_Is.f kj1 (wrap64 (2147483579 - t118))).bind fun t120 => (if t120 = true then (some false) else ((power_Pow.f kj1 (wrap64 (2147483579 - t118)) 1073741789).bind fun t121 => (if t121 = 2147483578 then ((curialaw2_known.f kj1).bind fun t122 => (some t122)) else (some false))))) else (some false)) = some r := H
        have A6 := Aside0.mk A60
        clear A60
        by_cases c7 : t119 = true
        · subst c7
          have H1 : ((power_Is.f kj1 (wrap64 (2147483579 - t118))).bind fun t120 => (if t120 = true then (some false) else ((power_Pow.f kj1 (wrap64 (2147483579 - t118)) 1073741789).bind fun t121 => (if t121 = 2147483578 then ((curialaw2_known.f kj1).bind fun t122 => (some t122)) else (some false))))) = some r := by rw [if_pos rfl] at H; exact H
          clear H
          have H := H1
          clear H1
          replace H := Option.bind_eq_some_iff.mp H
          obtain ⟨t120, A80, H⟩ := H
          replace H : (if t120 = true then (some false) else ((power_Pow.f kj1 (wrap64 (2147483579 - t118)) 1073741789).bind fun t121 => (if t121 = 2147483578 then ((curialaw2_known.f kj1).bind fun t122 => (some t122)) else (some false)))) = some r := H
          have A8 := Aside0.mk A80
          clear A80
          by_cases c9 : t120 = true
          · subst c9
            have H1 : (some false) = some r := by rw [if_pos rfl] at H; exact H
            clear H
            have H := H1
            clear H1
            obtain rfl := Option.some.inj H
            go_wp2_with (first | ((with_reducible refine gate_callee (f := 8) rfl ?_); refine goesL_ (some 11) rfl rfl Try.func8 (by kernel_rfl) rfl #[.int .i64 4, .int .i64 a0] rfl (by (try simp only [List.map_toArray, List.map_cons, List.map_nil]); first | done | rfl | (simp only [List.length_drop, List.length_take]; rfl)) ?_; (with_reducible refine (curiaref2_Pow.calls kj1 4 a0 t118 _ A5.out).mono ?_); rintro e w' ⟨rfl, ⟨nd, rfl⟩⟩; refine ⟨_, rfl, ?_⟩) | ((with_reducible refine gate_callee (f := 9) rfl ?_); refine goesL_ (some 13) rfl rfl Try.func9 (by kernel_rfl) rfl #[.int .i64 t118] rfl (by (try simp only [List.map_toArray, List.map_cons, List.map_nil]); first | done | rfl | (simp only [List.length_drop, List.length_take]; rfl)) ?_; (with_reducible refine (power_Is.calls kj1 t118 true _ A6.out).mono ?_); rintro e w' ⟨rfl, ⟨nd, rfl⟩⟩; refine ⟨_, rfl, ?_⟩) | (go_at_call 9; (with_reducible refine (power_Is.calls kj1 (wrap64 (2147483579 - t118)) true _ A8.out).mono ?_); rintro e w' ⟨rfl, ⟨nd, rfl⟩⟩))
            go_ret
            exact ⟨by first | rfl | (simp; done) | (simp [*]; done), by repeat (first | exact Drawn0.refl _ | apply Drawn0.step)⟩
          · replace c9 := Bool.eq_false_iff.mpr c9
            subst c9
            have H1 : ((power_Pow.f kj1 (wrap64 (2147483579 - t118)) 1073741789).bind fun t121 => (if t121 = 2147483578 then ((curialaw2_known.f kj1).bind fun t122 => (some t122)) else (some false))) = some r := by rw [if_neg (show ¬ (false = true) by decide)] at H; exact H
            clear H
            have H := H1
            clear H1
            replace H := Option.bind_eq_some_iff.mp H
            obtain ⟨t121, A100, H⟩ := H
            replace H : (if t121 = 2147483578 then ((curialaw2_known.f kj1).bind fun t122 => (some t122)) else (some false)) = some r := H
            have A10 := Aside0.mk A100
            clear A100
            by_cases c11 : t121 = 2147483578
            · rw [if_pos c11] at H
              have c11b0 : (t121 == 2147483578) = true := beq_iff_eq.mpr c11
              have c11b1 : (t121 != 2147483578) = false := bne_eq_false_iff_eq.mpr c11
              clear c11
              replace H := Option.bind_eq_some_iff.mp H
              obtain ⟨t122, A120, H⟩ := H
              replace H : (some t122) = some r := H
              have A12 := Aside0.mk A120
              clear A120
              obtain rfl := Option.some.inj H
              go_wp2_with (first | ((with_reducible refine gate_callee (f := 8) rfl ?_); refine goesL_ (some 11) rfl rfl Try.func8 (by kernel_rfl) rfl #[.int .i64 4, .int .i64 a0] rfl (by (try simp only [List.map_toArray, List.map_cons, List.map_nil]); first | done | rfl | (simp only [List.length_drop, List.length_take]; rfl)) ?_; (with_reducible refine (curiaref2_Pow.calls kj1 4 a0 t118 _ A5.out).mono ?_); rintro e w' ⟨rfl, ⟨nd, rfl⟩⟩; refine ⟨_, rfl, ?_⟩) | ((with_reducible refine gate_callee (f := 9) rfl ?_); refine goesL_ (some 13) rfl rfl Try.func9 (by kernel_rfl) rfl #[.int .i64 t118] rfl (by (try simp only [List.map_toArray, List.map_cons, List.map_nil]); first | done | rfl | (simp only [List.length_drop, List.length_take]; rfl)) ?_; (with_reducible refine (power_Is.calls kj1 t118 true _ A6.out).mono ?_); rintro e w' ⟨rfl, ⟨nd, rfl⟩⟩; refine ⟨_, rfl, ?_⟩) | (go_at_call 9; (with_reducible refine (power_Is.calls kj1 (wrap64 (2147483579 - t118)) false _ A8.out).mono ?_); rintro e w' ⟨rfl, ⟨nd, rfl⟩⟩) | (go_at_call 11; (with_reducible refine (power_Pow.calls kj1 (wrap64 (2147483579 - t118)) 1073741789 t121 _ A10.out).mono ?_); rintro e w' ⟨rfl, ⟨nd, rfl⟩⟩) | (go_at_call 10; (with_reducible refine (curialaw2_known.calls kj1  t122 _ A12.out).mono ?_); rintro e w' ⟨rfl, ⟨nd, rfl⟩⟩))
              go_ret
              exact ⟨by first | rfl | (simp; done) | (simp [*]; done), by repeat (first | exact Drawn0.refl _ | apply Drawn0.step)⟩
            · rw [if_neg c11] at H
              have c11b0 : (t121 == 2147483578) = false := beq_eq_false_iff_ne.mpr c11
              have c11b1 : (t121 != 2147483578) = true := bne_iff_ne.mpr c11
              obtain rfl := Option.some.inj H
              go_wp2_with (first | ((with_reducible refine gate_callee (f := 8) rfl ?_); refine goesL_ (some 11) rfl rfl Try.func8 (by kernel_rfl) rfl #[.int .i64 4, .int .i64 a0] rfl (by (try simp only [List.map_toArray, List.map_cons, List.map_nil]); first | done | rfl | (simp only [List.length_drop, List.length_take]; rfl)) ?_; (with_reducible refine (curiaref2_Pow.calls kj1 4 a0 t118 _ A5.out).mono ?_); rintro e w' ⟨rfl, ⟨nd, rfl⟩⟩; refine ⟨_, rfl, ?_⟩) | ((with_reducible refine gate_callee (f := 9) rfl ?_); refine goesL_ (some 13) rfl rfl Try.func9 (by kernel_rfl) rfl #[.int .i64 t118] rfl (by (try simp only [List.map_toArray, List.map_cons, List.map_nil]); first | done | rfl | (simp only [List.length_drop, List.length_take]; rfl)) ?_; (with_reducible refine (power_Is.calls kj1 t118 true _ A6.out).mono ?_); rintro e w' ⟨rfl, ⟨nd, rfl⟩⟩; refine ⟨_, rfl, ?_⟩) | (go_at_call 9; (with_reducible refine (power_Is.calls kj1 (wrap64 (2147483579 - t118)) false _ A8.out).mono ?_); rintro e w' ⟨rfl, ⟨nd, rfl⟩⟩) | (go_at_call 11; (with_reducible refine (power_Pow.calls kj1 (wrap64 (2147483579 - t118)) 1073741789 t121 _ A10.out).mono ?_); rintro e w' ⟨rfl, ⟨nd, rfl⟩⟩))
              go_ret
              exact ⟨by first | rfl | (simp; done) | (simp [*]; done), by repeat (first | exact Drawn0.refl _ | apply Drawn0.step)⟩
        · replace c7 := Bool.eq_false_iff.mpr c7
          subst c7
          have H1 : (some false) = some r := by rw [if_neg (show ¬ (false = true) by decide)] at H; exact H
          clear H
          have H := H1
          clear H1
          obtain rfl := Option.some.inj H
          go_wp2_with (first | ((with_reducible refine gate_callee (f := 8) rfl ?_); refine goesL_ (some 11) rfl rfl Try.func8 (by kernel_rfl) rfl #[.int .i64 4, .int .i64 a0] rfl (by (try simp only [List.map_toArray, List.map_cons, List.map_nil]); first | done | rfl | (simp only [List.length_drop, List.length_take]; rfl)) ?_; (with_reducible refine (curiaref2_Pow.calls kj1 4 a0 t118 _ A5.out).mono ?_); rintro e w' ⟨rfl, ⟨nd, rfl⟩⟩; refine ⟨_, rfl, ?_⟩) | ((with_reducible refine gate_callee (f := 9) rfl ?_); refine goesL_ (some 13) rfl rfl Try.func9 (by kernel_rfl) rfl #[.int .i64 t118] rfl (by (try simp only [List.map_toArray, List.map_cons, List.map_nil]); first | done | rfl | (simp only [List.length_drop, List.length_take]; rfl)) ?_; (with_reducible refine (power_Is.calls kj1 t118 false _ A6.out).mono ?_); rintro e w' ⟨rfl, ⟨nd, rfl⟩⟩; refine ⟨_, rfl, ?_⟩))
          go_ret
          exact ⟨by first | rfl | (simp; done) | (simp [*]; done), by repeat (first | exact Drawn0.refl _ | apply Drawn0.step)⟩

/-- THE ONE PURE STATEMENT of curialaw2_PowerTurned: yours. -/
def curialaw2_PowerTurned.Pure : Prop := ∀ (a0 : Int), (Lit.int .i64 a0).wf = true → ∃ k, curialaw2_PowerTurned.f k a0 = some true
theorem curialaw2_PowerTurned.walk (P : curialaw2_PowerTurned.Pure) (a0 : Int) (w : World) (w0 : (Lit.int .i64 a0).wf = true) :
    Calls Try.prog 5 #[.int .i64 a0] w fun e w' => e = .returned (.bool true) ∧ Below w.heap.size w w' := by
  obtain ⟨k, h⟩ := P a0 w0
  refine (curialaw2_PowerTurned.calls k a0 true w h).mono ?_
  rintro e w' ⟨rfl, hd⟩
  exact ⟨rfl, hd.below⟩

end Go.Proofs.Ytongkjihhkgpnab.PPowerTurned
