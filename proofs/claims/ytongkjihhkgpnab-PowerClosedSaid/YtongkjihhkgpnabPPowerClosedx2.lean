-- PRINTED BY print.sh 35421559b90ae4d0a3588c463048766b98c2df88dd9212a6774a882060cdf62d: not written by this session
import Derived.Test.YtongkjihhkgpnabPPowerClosedx0
import Derived.Test.YtongkjihhkgpnabPPowerClosedx1
namespace Go.Proofs.Ytongkjihhkgpnab.PPowerClosed
open Go.RowKit Go.Proofs.YtongkjihhkgpnabW.PrintWords Go.Proofs.YtongkjihhkgpnabW.PrintLast Go.Proofs.YtongkjihhkgpnabW.PrintMore
attribute [local go_sem] max2_int min2_int max_two min_two max_three min_three max_four min_four   -- for this text's walks alone
set_option linter.unusedVariables false
set_option linter.unusedSimpArgs false

/-! ### curialaw2_PowerClosed: function 3 -/
def curialaw2_PowerClosed.j0 : Nat → Int → Int → Bool → Option (Bool)
  | 0, _, _, _ => none
  | k + 1, x0, x1, x19 => if x19 = true then (some true) else ((curiaref2_Pow.f k 4 x0).bind fun t118 => ((curiaref2_Pow.f k 4 x1).bind fun t119 => ((power_Mul.f t118 t119).bind fun t120 => ((power_Is.f k t120).bind fun t121 => (if (t121 == (t120 != 1)) = true then ((curialaw2_known.f k).bind fun t122 => (some t122)) else (some false))))))
def curialaw2_PowerClosed.f (k : Nat) (a0 : Int) (a1 : Int) : Option (Bool) := if a0 < 1 then (curialaw2_PowerClosed.j0 k a0 a1 true) else (if a0 ≥ 1073741789 then (curialaw2_PowerClosed.j0 k a0 a1 true) else (if a1 < 1 then (curialaw2_PowerClosed.j0 k a0 a1 true) else (curialaw2_PowerClosed.j0 k a0 a1 (decide (a1 ≥ 1073741789)))))
theorem curialaw2_PowerClosed.mono_l : ∀ k, (∀ y0 y1 y2, LeO (curialaw2_PowerClosed.j0 k y0 y1 y2) (curialaw2_PowerClosed.j0 (k + 1) y0 y1 y2))
  | 0 => fun _ _ _ r h => by simp [curialaw2_PowerClosed.j0] at h
  | k + 1 => by
    have ih0 := curialaw2_PowerClosed.mono_l k
    · intro y0 y1 y2
      unfold curialaw2_PowerClosed.j0
      repeat' first
      | (with_reducible exact ih0 _ _ _)
      | (with_reducible exact curialaw2_known.mono _)
      | (with_reducible exact curiaref2_Pow.mono _ _ _)
      | (with_reducible exact power_Is.mono _ _)
      | (with_reducible exact LeO.refl _)
      | (with_reducible exact LeO.none _)
      | (with_reducible refine LeO.ite ?_ ?_)
      | (with_reducible refine LeO.bind ?_ (fun _ => ?_))
      | exact ih0 _ _ _
      | exact curialaw2_known.mono _
      | exact curiaref2_Pow.mono _ _ _
      | exact power_Is.mono _ _
      | exact LeO.none _
      | refine LeO.ite ?_ ?_
      | refine LeO.bind ?_ (fun _ => ?_)
theorem curialaw2_PowerClosed.mono : ∀ a0 a1 k, LeO (curialaw2_PowerClosed.f k a0 a1) (curialaw2_PowerClosed.f (k + 1) a0 a1) := by
  intro a0 a1 k
  have ih0 := curialaw2_PowerClosed.mono_l k
  unfold curialaw2_PowerClosed.f
  repeat' first
      | (with_reducible exact ih0 _ _ _)
      | (with_reducible exact curialaw2_known.mono _)
      | (with_reducible exact curiaref2_Pow.mono _ _ _)
      | (with_reducible exact power_Is.mono _ _)
      | (with_reducible exact LeO.refl _)
      | (with_reducible exact LeO.none _)
      | (with_reducible refine LeO.ite ?_ ?_)
      | (with_reducible refine LeO.bind ?_ (fun _ => ?_))
      | exact ih0 _ _ _
      | exact curialaw2_known.mono _
      | exact curiaref2_Pow.mono _ _ _
      | exact power_Is.mono _ _
      | exact LeO.none _
      | refine LeO.ite ?_ ?_
      | refine LeO.bind ?_ (fun _ => ?_)
set_option maxHeartbeats 8000000 in
set_option maxRecDepth 100000 in
theorem curialaw2_PowerClosed.calls (k : Nat) (a0 : Int) (a1 : Int) (r : Bool) (w : World) (h : curialaw2_PowerClosed.f k a0 a1 = some r) :
    Calls Try.prog 3 #[.int .i64 a0, .int .i64 a1] w fun e w' => e = .returned (.bool r) ∧ Drawn0 w w' := by
  have H : (if a0 < 1 then (curialaw2_PowerClosed.j0 k a0 a1 true) else (if a0 ≥ 1073741789 then (curialaw2_PowerClosed.j0 k a0 a1 true) else (if a1 < 1 then (curialaw2_PowerClosed.j0 k a0 a1 true) else (curialaw2_PowerClosed.j0 k a0 a1 (decide (a1 ≥ 1073741789)))))) = some r := h
  clear h
  have HC3 := Aside0.mk H
  clear H
  go_enter Try.func3, Try.ntmps3
  go_upto_region 1 with (fail)
  go_cut [19] (fun v19 wc => ∃ (kq : Nat) (x19_2 : Bool), v19 = .bool x19_2 ∧ Aside0 (curialaw2_PowerClosed.j0 kq a0 a1 x19_2 = some r) ∧ Aside0 (kq ≤ k) ∧ Drawn0 w wc)
  case first =>
    have H := HC3.out
    clear HC3
    by_cases c4 : a0 < 1
    · rw [if_pos c4] at H
      have c4b0 : decide (a0 < 1) = true := decide_eq_true c4
      clear c4
      (first | rw [c4b0] | (simp only [i64_w, i32_w]; rw [c4b0]) | skip)
      have H' := Aside0.mk H
      clear H
      go_wp2
      go_meet
      case rel => exact ⟨_, (true), (by first | rfl | (simp; done) | (simp [*]; done)), H', ⟨by first | omega | exact Nat.le_refl _⟩, by repeat (first | exact Drawn0.refl _ | apply Drawn0.step)⟩
    · rw [if_neg c4] at H
      have c4b0 : decide (a0 < 1) = false := decide_eq_false c4
      clear c4
      (first | rw [c4b0] | (simp only [i64_w, i32_w]; rw [c4b0]) | skip)
      by_cases c5 : a0 ≥ 1073741789
      · rw [if_pos c5] at H
        have c5b0 : decide (1073741789 ≤ a0) = true := decide_eq_true c5
        clear c5
        have H' := Aside0.mk H
        clear H
        go_wp2
        go_meet
        case rel => exact ⟨_, (true), (by first | rfl | (simp; done) | (simp [*]; done)), H', ⟨by first | omega | exact Nat.le_refl _⟩, by repeat (first | exact Drawn0.refl _ | apply Drawn0.step)⟩
      · rw [if_neg c5] at H
        have c5b0 : decide (1073741789 ≤ a0) = false := decide_eq_false c5
        clear c5
        by_cases c6 : a1 < 1
        · rw [if_pos c6] at H
          have c6b0 : decide (a1 < 1) = true := decide_eq_true c6
          clear c6
          have H' := Aside0.mk H
          clear H
          go_wp2
          go_meet
          case rel => exact ⟨_, (true), (by first | rfl | (simp; done) | (simp [*]; done)), H', ⟨by first | omega | exact Nat.le_refl _⟩, by repeat (first | exact Drawn0.refl _ | apply Drawn0.step)⟩
        · rw [if_neg c6] at H
          have c6b0 : decide (a1 < 1) = false := decide_eq_false c6
          clear c6
          have H' := Aside0.mk H
          clear H
          go_wp2
          go_meet
          case rel => exact ⟨_, (decide (a1 ≥ 1073741789)), (by first | rfl | (simp; done) | (simp [*]; done)), H', ⟨by first | omega | exact Nat.le_refl _⟩, by repeat (first | exact Drawn0.refl _ | apply Drawn0.step)⟩
  case rest =>
    clear HC3
    try clear p2
    try clear c3
    try clear c4
    try clear c4b0
    try clear c5
    try clear c5b0
    try clear c6
    try clear c6b0
    obtain ⟨kq, x19_2, rfl, HA, HJ2, ⟨mc2, rfl⟩⟩ := hcut
    cases kq with
    | zero => exact absurd HA.out (by simp [curialaw2_PowerClosed.j0])
    | succ kj2 =>
      have H := HA.out
      clear HA
      simp only [curialaw2_PowerClosed.j0] at H
      by_cases c7 : x19_2 = true
      · subst c7
        have H1 : (some true) = some r := by rw [if_pos rfl] at H; exact H
        clear H
        have H := H1
        clear H1
        obtain rfl := Option.some.inj H
        go_wp2
        go_ret
        exact ⟨by first | rfl | (simp; done) | (simp [*]; done), by repeat (first | exact Drawn0.refl _ | apply Drawn0.step)⟩
      · replace c7 := Bool.eq_false_iff.mpr c7
        subst c7
        have H1 : ((curiaref2_Pow.f kj2 4 a0).bind fun t118 => ((curiaref2_Pow.f kj2 4 a1).bind fun t119 => ((power_Mul.f t118 t119).bind fun t120 => ((power_Is.f kj2 t120).bind fun t121 => (if (t121 == (t120 != 1)) = true then ((curialaw2_known.f kj2).bind fun t122 => (some t122)) else (some false)))))) = some r := by rw [if_neg (show ¬ (false = true) by decide)] at H; exact H
        clear H
        have H := H1
        clear H1
        replace H := Option.bind_eq_some_iff.mp H
        obtain ⟨t118, A80, H⟩ := H
        replace H : ((curiaref2_Pow.f kj2 4 a1).bind fun t119 => ((power_Mul.f t118 t119).bind fun t120 => ((power_Is.f kj2 t120).bind fun t121 => (if (t121 == (t120 != 1)) = true then ((curialaw2_known.f kj2).bind fun t122 => (some t122)) else (some false))))) = some r := H
        have A8 := Aside0.mk A80
        clear A80
        replace H := Option.bind_eq_some_iff.mp H
        obtain ⟨t119, A90, H⟩ := H
        replace H : ((power_Mul.f t118 t119).bind fun t120 => ((power_Is.f kj2 t120).bind fun t121 => (if (t121 == (t120 != 1)) = true then ((curialaw2_known.f kj2).bind fun t122 => (some t122)) else (some false)))) = some r := H
        have A9 := Aside0.mk A90
        clear A90
        replace H := Option.bind_eq_some_iff.mp H
        obtain ⟨t120, A100, H⟩ := H
        replace H : ((power_Is.f kj2 t120).bind fun t121 => (if (t121 == (t120 != 1)) = true then ((curialaw2_known.f kj2).bind fun t122 => (some t122)) else (some false))) = some r := H
        have A10 := Aside0.mk A100
        clear A100
        replace H := Option.bind_eq_some_iff.mp H
        obtain ⟨t121, A110, H⟩ := H
        replace H : (if (t121 == (t120 != 1)) = true then ((curialaw2_known.f kj2).bind fun t122 => (some t122)) else (some false)) = some r := H
        have A11 := Aside0.mk A110
        clear A110
        by_cases c12 : (t121 == (t120 != 1)) = true
        · rw [if_pos c12] at H
          have c12b0 : (t121 == (t120 != 1)) = true := c12
          (try (have c12b1 : decide (t121 = (t120 != 1)) = true := by simpa using c12))
          (try (have c12b2 : (t121 == (t120 != 1)) = true := by simpa using c12))
          clear c12
          replace H := Option.bind_eq_some_iff.mp H
          obtain ⟨t122, A130, H⟩ := H
          replace H : (some t122) = some r := H
          have A13 := Aside0.mk A130
          clear A130
          obtain rfl := Option.some.inj H
          go_wp2_with (first | ((with_reducible refine gate_callee (f := 8) rfl ?_); refine goesL_ (some 21) rfl rfl Try.func8 (by kernel_rfl) rfl #[.int .i64 4, .int .i64 a0] rfl (by (try simp only [List.map_toArray, List.map_cons, List.map_nil]); first | done | rfl | (simp only [List.length_drop, List.length_take]; rfl)) ?_; (with_reducible refine (curiaref2_Pow.calls kj2 4 a0 t118 _ A8.out).mono ?_); rintro e w' ⟨rfl, ⟨nd, rfl⟩⟩; refine ⟨_, rfl, ?_⟩) | ((with_reducible refine gate_callee (f := 8) rfl ?_); refine goesL_ (some 23) rfl rfl Try.func8 (by kernel_rfl) rfl #[.int .i64 4, .int .i64 a1] rfl (by (try simp only [List.map_toArray, List.map_cons, List.map_nil]); first | done | rfl | (simp only [List.length_drop, List.length_take]; rfl)) ?_; (with_reducible refine (curiaref2_Pow.calls kj2 4 a1 t119 _ A9.out).mono ?_); rintro e w' ⟨rfl, ⟨nd, rfl⟩⟩; refine ⟨_, rfl, ?_⟩) | ((with_reducible refine gate_callee (f := 7) rfl ?_); refine goesL_ (some 24) rfl rfl Try.func7 (by kernel_rfl) rfl #[.int .i64 t118, .int .i64 t119] rfl (by (try simp only [List.map_toArray, List.map_cons, List.map_nil]); first | done | rfl | (simp only [List.length_drop, List.length_take]; rfl)) ?_; (with_reducible refine (power_Mul.calls t118 t119 t120 _ A10.out).mono ?_); rintro e w' ⟨rfl, ⟨nd, rfl⟩⟩; refine ⟨_, rfl, ?_⟩) | ((with_reducible refine gate_callee (f := 9) rfl ?_); refine goesL_ (some 26) rfl rfl Try.func9 (by kernel_rfl) rfl #[.int .i64 t120] rfl (by (try simp only [List.map_toArray, List.map_cons, List.map_nil]); first | done | rfl | (simp only [List.length_drop, List.length_take]; rfl)) ?_; (with_reducible refine (power_Is.calls kj2 t120 t121 _ A11.out).mono ?_); rintro e w' ⟨rfl, ⟨nd, rfl⟩⟩; refine ⟨_, rfl, ?_⟩) | (go_at_call 10; (with_reducible refine (curialaw2_known.calls kj2  t122 _ A13.out).mono ?_); rintro e w' ⟨rfl, ⟨nd, rfl⟩⟩))
          go_ret
          exact ⟨by first | rfl | (simp; done) | (simp [*]; done), by repeat (first | exact Drawn0.refl _ | apply Drawn0.step)⟩
        · rw [if_neg c12] at H
          have c12b0 : (t121 == (t120 != 1)) = false := by simpa using c12
          (try (have c12b1 : decide (t121 = (t120 != 1)) = false := by simpa using c12))
          (try (have c12b2 : (t121 == (t120 != 1)) = false := by simpa using c12))
          (try (have c12b3 : ¬ (t121 = (t120 != 1)) := by simpa using c12))
          clear c12
          obtain rfl := Option.some.inj H
          go_wp2_with (first | ((with_reducible refine gate_callee (f := 8) rfl ?_); refine goesL_ (some 21) rfl rfl Try.func8 (by kernel_rfl) rfl #[.int .i64 4, .int .i64 a0] rfl (by (try simp only [List.map_toArray, List.map_cons, List.map_nil]); first | done | rfl | (simp only [List.length_drop, List.length_take]; rfl)) ?_; (with_reducible refine (curiaref2_Pow.calls kj2 4 a0 t118 _ A8.out).mono ?_); rintro e w' ⟨rfl, ⟨nd, rfl⟩⟩; refine ⟨_, rfl, ?_⟩) | ((with_reducible refine gate_callee (f := 8) rfl ?_); refine goesL_ (some 23) rfl rfl Try.func8 (by kernel_rfl) rfl #[.int .i64 4, .int .i64 a1] rfl (by (try simp only [List.map_toArray, List.map_cons, List.map_nil]); first | done | rfl | (simp only [List.length_drop, List.length_take]; rfl)) ?_; (with_reducible refine (curiaref2_Pow.calls kj2 4 a1 t119 _ A9.out).mono ?_); rintro e w' ⟨rfl, ⟨nd, rfl⟩⟩; refine ⟨_, rfl, ?_⟩) | ((with_reducible refine gate_callee (f := 7) rfl ?_); refine goesL_ (some 24) rfl rfl Try.func7 (by kernel_rfl) rfl #[.int .i64 t118, .int .i64 t119] rfl (by (try simp only [List.map_toArray, List.map_cons, List.map_nil]); first | done | rfl | (simp only [List.length_drop, List.length_take]; rfl)) ?_; (with_reducible refine (power_Mul.calls t118 t119 t120 _ A10.out).mono ?_); rintro e w' ⟨rfl, ⟨nd, rfl⟩⟩; refine ⟨_, rfl, ?_⟩) | ((with_reducible refine gate_callee (f := 9) rfl ?_); refine goesL_ (some 26) rfl rfl Try.func9 (by kernel_rfl) rfl #[.int .i64 t120] rfl (by (try simp only [List.map_toArray, List.map_cons, List.map_nil]); first | done | rfl | (simp only [List.length_drop, List.length_take]; rfl)) ?_; (with_reducible refine (power_Is.calls kj2 t120 t121 _ A11.out).mono ?_); rintro e w' ⟨rfl, ⟨nd, rfl⟩⟩; refine ⟨_, rfl, ?_⟩))
          go_ret
          exact ⟨by first | rfl | (simp; done) | (simp [*]; done), by repeat (first | exact Drawn0.refl _ | apply Drawn0.step)⟩

/-- THE ONE PURE STATEMENT of curialaw2_PowerClosed: yours. -/
def curialaw2_PowerClosed.Pure : Prop := ∀ (a0 : Int) (a1 : Int), (Lit.int .i64 a0).wf = true → (Lit.int .i64 a1).wf = true → ∃ k, curialaw2_PowerClosed.f k a0 a1 = some true
theorem curialaw2_PowerClosed.walk (P : curialaw2_PowerClosed.Pure) (a0 : Int) (a1 : Int) (w : World) (w0 : (Lit.int .i64 a0).wf = true) (w1 : (Lit.int .i64 a1).wf = true) :
    Calls Try.prog 3 #[.int .i64 a0, .int .i64 a1] w fun e w' => e = .returned (.bool true) ∧ Below w.heap.size w w' := by
  obtain ⟨k, h⟩ := P a0 a1 w0 w1
  refine (curialaw2_PowerClosed.calls k a0 a1 true w h).mono ?_
  rintro e w' ⟨rfl, hd⟩
  exact ⟨rfl, hd.below⟩

end Go.Proofs.Ytongkjihhkgpnab.PPowerClosed
