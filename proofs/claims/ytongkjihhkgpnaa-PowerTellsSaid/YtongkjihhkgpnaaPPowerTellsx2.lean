-- PRINTED BY print.sh 35421559b90ae4d0a3588c463048766b98c2df88dd9212a6774a882060cdf62d: not written by this session
import Derived.Test.YtongkjihhkgpnaaPPowerTellsx0
import Derived.Test.YtongkjihhkgpnaaPPowerTellsx1
namespace Go.Proofs.Ytongkjihhkgpnaa.PPowerTells
open Go.RowKit Go.Proofs.YtongkjihhkgpnaaW.PrintWords Go.Proofs.YtongkjihhkgpnaaW.PrintLast Go.Proofs.YtongkjihhkgpnaaW.PrintMore
attribute [local go_sem] max2_int min2_int max_two min_two max_three min_three max_four min_four   -- for this text's walks alone
set_option linter.unusedVariables false
set_option linter.unusedSimpArgs false

/-! ### curialaw2_PowerTells: function 3 -/
def curialaw2_PowerTells.f (k : Nat) (a0 : Int) (a1 : Int) (a2 : Int) : Option (Bool) := (power_Mul.f a0 a1).bind fun t119 => ((curiaref2_Mul.f a0 a1).bind fun t120 => (if t119 = t120 then ((power_Pow.f k a0 a2).bind fun t121 => ((curiaref2_Pow.f k a0 a2).bind fun t122 => (if t121 = t122 then ((power_Is.f k a0).bind fun t123 => ((curiaref2_Is.f k a0).bind fun t124 => (if (t123 == t124) = true then ((curialaw2_known.f k).bind fun t125 => (some t125)) else (some false)))) else (some false)))) else (some false)))
theorem curialaw2_PowerTells.mono : ∀ a0 a1 a2 k, LeO (curialaw2_PowerTells.f k a0 a1 a2) (curialaw2_PowerTells.f (k + 1) a0 a1 a2) := by
  intro a0 a1 a2 k
  unfold curialaw2_PowerTells.f
  repeat' first
      | (with_reducible exact curialaw2_known.mono _)
      | (with_reducible exact curiaref2_Is.mono _ _)
      | (with_reducible exact curiaref2_Pow.mono _ _ _)
      | (with_reducible exact power_Is.mono _ _)
      | (with_reducible exact power_Pow.mono _ _ _)
      | (with_reducible exact LeO.refl _)
      | (with_reducible exact LeO.none _)
      | (with_reducible refine LeO.ite ?_ ?_)
      | (with_reducible refine LeO.bind ?_ (fun _ => ?_))
      | exact curialaw2_known.mono _
      | exact curiaref2_Is.mono _ _
      | exact curiaref2_Pow.mono _ _ _
      | exact power_Is.mono _ _
      | exact power_Pow.mono _ _ _
      | exact LeO.none _
      | refine LeO.ite ?_ ?_
      | refine LeO.bind ?_ (fun _ => ?_)
set_option maxHeartbeats 8000000 in
set_option maxRecDepth 100000 in
theorem curialaw2_PowerTells.calls (k : Nat) (a0 : Int) (a1 : Int) (a2 : Int) (r : Bool) (w : World) (h : curialaw2_PowerTells.f k a0 a1 a2 = some r) :
    Calls Try.prog 3 #[.int .i64 a0, .int .i64 a1, .int .i64 a2] w fun e w' => e = .returned (.bool r) ∧ Drawn0 w w' := by
  have H : ((power_Mul.f a0 a1).bind fun t119 => ((curiaref2_Mul.f a0 a1).bind fun t120 => (if t119 = t120 then ((power_Pow.f k a0 a2).bind fun t121 => ((curiaref2_Pow.f k a0 a2).bind fun t122 => (if t121 = t122 then ((power_Is.f k a0).bind fun t123 => ((curiaref2_Is.f k a0).bind fun t124 => (if (t123 == t124) = true then ((curialaw2_known.f k).bind fun t125 => (some t125)) else (some false)))) else (some false)))) else (some false)))) = some r := h
  clear h
  replace H := Option.bind_eq_some_iff.mp H
  obtain ⟨t119, A40, H⟩ := H
  replace H : ((curiaref2_Mul.f a0 a1).bind fun t120 => (if t119 = t120 then ((power_Pow.f k a0 a2).bind fun t121 => ((curiaref2_Pow.f k a0 a2).bind fun t122 => (if t121 = t122 then ((power_Is.f k a0).bind fun t123 => ((curiaref2_Is.f k a0).bind fun t124 => (if (t123 == t124) = true then ((curialaw2_known.f k).bind fun t125 => (some t125)) else (some false)))) else (some false)))) else (some false))) = some r := H
  have A4 := Aside0.mk A40
  clear A40
  replace H := Option.bind_eq_some_iff.mp H
  obtain ⟨t120, A50, H⟩ := H
  replace H : (if t119 = t120 then ((power_Pow.f k a0 a2).bind fun t121 => ((curiaref2_Pow.f k a0 a2).bind fun t122 => (if t121 = t122 then ((power_Is.f k a0).bind fun t123 => ((curiaref2_Is.f k a0).bind fun t124 => (if (t123 == t124) = true then ((curialaw2_known.f k).bind fun t125 => (some t125)) else (some false)))) else (some false)))) else (some false)) = some r := H
  have A5 := Aside0.mk A50
  clear A50
  by_cases c6 : t119 = t120
  · rw [if_pos c6] at H
    have c6b0 : (t119 == t120) = true := beq_iff_eq.mpr c6
    have c6b1 : (t119 != t120) = false := bne_eq_false_iff_eq.mpr c6
    clear c6
    replace H := Option.bind_eq_some_iff.mp H
    obtain ⟨t121, A70, H⟩ := H
    replace H : ((curiaref2_Pow.f k a0 a2).bind fun t122 => (if t121 = t122 then ((power_Is.f k a0).bind fun t123 => ((curiaref2_Is.f k a0).bind fun t124 => (if (t123 == t124) = true then ((curialaw2_known.f k).bind fun t125 => (some t125)) else (some false)))) else (some false))) = some r := H
    have A7 := Aside0.mk A70
    clear A70
    replace H := Option.bind_eq_some_iff.mp H
    obtain ⟨t122, A80, H⟩ := H
    replace H : (if t121 = t122 then ((power_Is.f k a0).bind fun t123 => ((curiaref2_Is.f k a0).bind fun t124 => (if (t123 == t124) = true then ((curialaw2_known.f k).bind fun t125 => (some t125)) else (some false)))) else (some false)) = some r := H
    have A8 := Aside0.mk A80
    clear A80
    by_cases c9 : t121 = t122
    · rw [if_pos c9] at H
      have c9b0 : (t121 == t122) = true := beq_iff_eq.mpr c9
      have c9b1 : (t121 != t122) = false := bne_eq_false_iff_eq.mpr c9
      clear c9
      replace H := Option.bind_eq_some_iff.mp H
      obtain ⟨t123, A100, H⟩ := H
      replace H : ((curiaref2_Is.f k a0).bind fun t124 => (if (t123 == t124) = true then ((curialaw2_known.f k).bind fun t125 => (some t125)) else (some false))) = some r := H
      have A10 := Aside0.mk A100
      clear A100
      replace H := Option.bind_eq_some_iff.mp H
      obtain ⟨t124, A110, H⟩ := H
      replace H : (if (t123 == t124) = true then ((curialaw2_known.f k).bind fun t125 => (some t125)) else (some false)) = some r := H
      have A11 := Aside0.mk A110
      clear A110
      by_cases c12 : (t123 == t124) = true
      · rw [if_pos c12] at H
        have c12b0 : (t123 == t124) = true := c12
        (try (have c12b1 : decide (t123 = t124) = true := by simpa using c12))
        (try (have c12b2 : (t123 == t124) = true := by simpa using c12))
        clear c12
        replace H := Option.bind_eq_some_iff.mp H
        obtain ⟨t125, A130, H⟩ := H
        replace H : (some t125) = some r := H
        have A13 := Aside0.mk A130
        clear A130
        obtain rfl := Option.some.inj H
        go_enter Try.func3, Try.ntmps3
        go_wp2_with (first | ((with_reducible refine gate_callee (f := 9) rfl ?_); refine goesL_ (some 9) rfl rfl Try.func9 (by kernel_rfl) rfl #[.int .i64 a0, .int .i64 a1] rfl (by (try simp only [List.map_toArray, List.map_cons, List.map_nil]); first | done | rfl | (simp only [List.length_drop, List.length_take]; rfl)) ?_; (with_reducible refine (power_Mul.calls a0 a1 t119 _ A4.out).mono ?_); rintro e w' ⟨rfl, ⟨nd, rfl⟩⟩; refine ⟨_, rfl, ?_⟩) | ((with_reducible refine gate_callee (f := 10) rfl ?_); refine goesL_ (some 12) rfl rfl Try.func10 (by kernel_rfl) rfl #[.int .i64 a0, .int .i64 a1] rfl (by (try simp only [List.map_toArray, List.map_cons, List.map_nil]); first | done | rfl | (simp only [List.length_drop, List.length_take]; rfl)) ?_; (with_reducible refine (curiaref2_Mul.calls a0 a1 t120 _ A5.out).mono ?_); rintro e w' ⟨rfl, ⟨nd, rfl⟩⟩; refine ⟨_, rfl, ?_⟩) | (go_at_call 11; (with_reducible refine (power_Pow.calls k a0 a2 t121 _ A7.out).mono ?_); rintro e w' ⟨rfl, ⟨nd, rfl⟩⟩) | (go_at_call 12; (with_reducible refine (curiaref2_Pow.calls k a0 a2 t122 _ A8.out).mono ?_); rintro e w' ⟨rfl, ⟨nd, rfl⟩⟩) | (go_at_call 13; (with_reducible refine (power_Is.calls k a0 t123 _ A10.out).mono ?_); rintro e w' ⟨rfl, ⟨nd, rfl⟩⟩) | (go_at_call 14; (with_reducible refine (curiaref2_Is.calls k a0 t124 _ A11.out).mono ?_); rintro e w' ⟨rfl, ⟨nd, rfl⟩⟩) | (go_at_call 15; (with_reducible refine (curialaw2_known.calls k  t125 _ A13.out).mono ?_); rintro e w' ⟨rfl, ⟨nd, rfl⟩⟩))
        go_ret
        exact ⟨by first | rfl | (simp; done) | (simp [*]; done), by repeat (first | exact Drawn0.refl _ | apply Drawn0.step)⟩
      · rw [if_neg c12] at H
        have c12b0 : (t123 == t124) = false := by simpa using c12
        (try (have c12b1 : decide (t123 = t124) = false := by simpa using c12))
        (try (have c12b2 : (t123 == t124) = false := by simpa using c12))
        (try (have c12b3 : ¬ (t123 = t124) := by simpa using c12))
        clear c12
        obtain rfl := Option.some.inj H
        go_enter Try.func3, Try.ntmps3
        go_wp2_with (first | ((with_reducible refine gate_callee (f := 9) rfl ?_); refine goesL_ (some 9) rfl rfl Try.func9 (by kernel_rfl) rfl #[.int .i64 a0, .int .i64 a1] rfl (by (try simp only [List.map_toArray, List.map_cons, List.map_nil]); first | done | rfl | (simp only [List.length_drop, List.length_take]; rfl)) ?_; (with_reducible refine (power_Mul.calls a0 a1 t119 _ A4.out).mono ?_); rintro e w' ⟨rfl, ⟨nd, rfl⟩⟩; refine ⟨_, rfl, ?_⟩) | ((with_reducible refine gate_callee (f := 10) rfl ?_); refine goesL_ (some 12) rfl rfl Try.func10 (by kernel_rfl) rfl #[.int .i64 a0, .int .i64 a1] rfl (by (try simp only [List.map_toArray, List.map_cons, List.map_nil]); first | done | rfl | (simp only [List.length_drop, List.length_take]; rfl)) ?_; (with_reducible refine (curiaref2_Mul.calls a0 a1 t120 _ A5.out).mono ?_); rintro e w' ⟨rfl, ⟨nd, rfl⟩⟩; refine ⟨_, rfl, ?_⟩) | (go_at_call 11; (with_reducible refine (power_Pow.calls k a0 a2 t121 _ A7.out).mono ?_); rintro e w' ⟨rfl, ⟨nd, rfl⟩⟩) | (go_at_call 12; (with_reducible refine (curiaref2_Pow.calls k a0 a2 t122 _ A8.out).mono ?_); rintro e w' ⟨rfl, ⟨nd, rfl⟩⟩) | (go_at_call 13; (with_reducible refine (power_Is.calls k a0 t123 _ A10.out).mono ?_); rintro e w' ⟨rfl, ⟨nd, rfl⟩⟩) | (go_at_call 14; (with_reducible refine (curiaref2_Is.calls k a0 t124 _ A11.out).mono ?_); rintro e w' ⟨rfl, ⟨nd, rfl⟩⟩))
        go_ret
        exact ⟨by first | rfl | (simp; done) | (simp [*]; done), by repeat (first | exact Drawn0.refl _ | apply Drawn0.step)⟩
    · rw [if_neg c9] at H
      have c9b0 : (t121 == t122) = false := beq_eq_false_iff_ne.mpr c9
      have c9b1 : (t121 != t122) = true := bne_iff_ne.mpr c9
      obtain rfl := Option.some.inj H
      go_enter Try.func3, Try.ntmps3
      go_wp2_with (first | ((with_reducible refine gate_callee (f := 9) rfl ?_); refine goesL_ (some 9) rfl rfl Try.func9 (by kernel_rfl) rfl #[.int .i64 a0, .int .i64 a1] rfl (by (try simp only [List.map_toArray, List.map_cons, List.map_nil]); first | done | rfl | (simp only [List.length_drop, List.length_take]; rfl)) ?_; (with_reducible refine (power_Mul.calls a0 a1 t119 _ A4.out).mono ?_); rintro e w' ⟨rfl, ⟨nd, rfl⟩⟩; refine ⟨_, rfl, ?_⟩) | ((with_reducible refine gate_callee (f := 10) rfl ?_); refine goesL_ (some 12) rfl rfl Try.func10 (by kernel_rfl) rfl #[.int .i64 a0, .int .i64 a1] rfl (by (try simp only [List.map_toArray, List.map_cons, List.map_nil]); first | done | rfl | (simp only [List.length_drop, List.length_take]; rfl)) ?_; (with_reducible refine (curiaref2_Mul.calls a0 a1 t120 _ A5.out).mono ?_); rintro e w' ⟨rfl, ⟨nd, rfl⟩⟩; refine ⟨_, rfl, ?_⟩) | (go_at_call 11; (with_reducible refine (power_Pow.calls k a0 a2 t121 _ A7.out).mono ?_); rintro e w' ⟨rfl, ⟨nd, rfl⟩⟩) | (go_at_call 12; (with_reducible refine (curiaref2_Pow.calls k a0 a2 t122 _ A8.out).mono ?_); rintro e w' ⟨rfl, ⟨nd, rfl⟩⟩))
      go_ret
      exact ⟨by first | rfl | (simp; done) | (simp [*]; done), by repeat (first | exact Drawn0.refl _ | apply Drawn0.step)⟩
  · rw [if_neg c6] at H
    have c6b0 : (t119 == t120) = false := beq_eq_false_iff_ne.mpr c6
    have c6b1 : (t119 != t120) = true := bne_iff_ne.mpr c6
    obtain rfl := Option.some.inj H
    go_enter Try.func3, Try.ntmps3
    go_wp2_with (first | ((with_reducible refine gate_callee (f := 9) rfl ?_); refine goesL_ (some 9) rfl rfl Try.func9 (by kernel_rfl) rfl #[.int .i64 a0, .int .i64 a1] rfl (by (try simp only [List.map_toArray, List.map_cons, List.map_nil]); first | done | rfl | (simp only [List.length_drop, List.length_take]; rfl)) ?_; (with_reducible refine (power_Mul.calls a0 a1 t119 _ A4.out).mono ?_); rintro e w' ⟨rfl, ⟨nd, rfl⟩⟩; refine ⟨_, rfl, ?_⟩) | ((with_reducible refine gate_callee (f := 10) rfl ?_); refine goesL_ (some 12) rfl rfl Try.func10 (by kernel_rfl) rfl #[.int .i64 a0, .int .i64 a1] rfl (by (try simp only [List.map_toArray, List.map_cons, List.map_nil]); first | done | rfl | (simp only [List.length_drop, List.length_take]; rfl)) ?_; (with_reducible refine (curiaref2_Mul.calls a0 a1 t120 _ A5.out).mono ?_); rintro e w' ⟨rfl, ⟨nd, rfl⟩⟩; refine ⟨_, rfl, ?_⟩))
    go_ret
    exact ⟨by first | rfl | (simp; done) | (simp [*]; done), by repeat (first | exact Drawn0.refl _ | apply Drawn0.step)⟩

/-- THE ONE PURE STATEMENT of curialaw2_PowerTells: yours. -/
def curialaw2_PowerTells.Pure : Prop := ∀ (a0 : Int) (a1 : Int) (a2 : Int), (Lit.int .i64 a0).wf = true → (Lit.int .i64 a1).wf = true → (Lit.int .i64 a2).wf = true → ∃ k, curialaw2_PowerTells.f k a0 a1 a2 = some true
theorem curialaw2_PowerTells.walk (P : curialaw2_PowerTells.Pure) (a0 : Int) (a1 : Int) (a2 : Int) (w : World) (w0 : (Lit.int .i64 a0).wf = true) (w1 : (Lit.int .i64 a1).wf = true) (w2 : (Lit.int .i64 a2).wf = true) :
    Calls Try.prog 3 #[.int .i64 a0, .int .i64 a1, .int .i64 a2] w fun e w' => e = .returned (.bool true) ∧ Below w.heap.size w w' := by
  obtain ⟨k, h⟩ := P a0 a1 a2 w0 w1 w2
  refine (curialaw2_PowerTells.calls k a0 a1 a2 true w h).mono ?_
  rintro e w' ⟨rfl, hd⟩
  exact ⟨rfl, hd.below⟩

end Go.Proofs.Ytongkjihhkgpnaa.PPowerTells
