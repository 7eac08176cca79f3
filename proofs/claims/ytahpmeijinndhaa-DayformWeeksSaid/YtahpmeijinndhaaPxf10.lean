-- Written for this claim by a turned copy of the kit's print program (gprint_patch.py). Not trusted: Lean checks it.
import Derived.Test.YtahpmeijinndhaaPx0
import Derived.Test.YtahpmeijinndhaaPxf7
namespace Go.Proofs.Ytahpmeijinndhaa.P
open Go.RowKit Go.Proofs.YtahpmeijinndhaaW.PrintWords Go.Proofs.YtahpmeijinndhaaW.PrintLast Go.Proofs.YtahpmeijinndhaaW.PrintMore
attribute [local go_sem] max2_int min2_int max_two min_two max_three min_three max_four min_four   -- for this text's walks alone
set_option linter.unusedVariables false
set_option linter.unusedSimpArgs false

/-! ### civil_Right: function 10 -/
def civil_Right.f (k : Nat) (a0 : Int) (a1 : Int) (a2 : Int) : Option (Bool) := if a0 ≥ (-9999) then (if a0 ≤ 9999 then (if a2 ≥ 1 then ((civil_Long.f k a0 a1).bind fun t102 => (some (decide (a2 ≤ t102)))) else (some false)) else (some false)) else (some false)
theorem civil_Right.mono : ∀ a0 a1 a2 k, LeO (civil_Right.f k a0 a1 a2) (civil_Right.f (k + 1) a0 a1 a2) := by
  intro a0 a1 a2 k
  unfold civil_Right.f
  repeat' first
      | (with_reducible exact civil_Long.mono _ _ _)
      | (with_reducible exact LeO.refl _)
      | (with_reducible exact LeO.none _)
      | (with_reducible refine LeO.ite ?_ ?_)
      | (with_reducible refine LeO.bind ?_ (fun _ => ?_))
      | exact civil_Long.mono _ _ _
      | exact LeO.none _
      | refine LeO.ite ?_ ?_
      | refine LeO.bind ?_ (fun _ => ?_)
set_option maxHeartbeats 8000000 in
set_option maxRecDepth 100000 in
theorem civil_Right.calls (k : Nat) (a0 : Int) (a1 : Int) (a2 : Int) (r : Bool) (w : World) (hG : GOK w) (h : civil_Right.f k a0 a1 a2 = some r) :
    Calls Try.prog 10 #[.int .i64 a0, .int .i64 a1, .int .i64 a2] w fun e w' => e = .returned (.bool r) ∧ Drawn0 w w' := by
  have H : (if a0 ≥ (-9999) then (if a0 ≤ 9999 then (if a2 ≥ 1 then ((civil_Long.f k a0 a1).bind fun t102 => (some (decide (a2 ≤ t102)))) else (some false)) else (some false)) else (some false)) = some r := h
  clear h
  by_cases c4 : a0 ≥ (-9999)
  · rw [if_pos c4] at H
    have c4b0 : decide ((-9999) ≤ a0) = true := decide_eq_true c4
    clear c4
    by_cases c5 : a0 ≤ 9999
    · rw [if_pos c5] at H
      have c5b0 : decide (a0 ≤ 9999) = true := decide_eq_true c5
      clear c5
      by_cases c6 : a2 ≥ 1
      · rw [if_pos c6] at H
        have c6b0 : decide (1 ≤ a2) = true := decide_eq_true c6
        clear c6
        replace H := Option.bind_eq_some_iff.mp H
        obtain ⟨t102, A70, H⟩ := H
        replace H : (some (decide (a2 ≤ t102))) = some r := H
        have A7 := Aside0.mk A70
        clear A70
        obtain rfl := Option.some.inj H
        go_enter Try.func10, Try.ntmps10
        go_wp2_with (first | (go_at_call 7; (with_reducible refine (civil_Long.calls k a0 a1 t102 _ ?side1 A7.out).mono ?_); (case side1 => first | exact hG | (repeat (first | exact hG | refine GOK.drewN ?_ _ | refine GOK.drew ?_))); rintro e w' ⟨rfl, ⟨nd, rfl⟩⟩))
        go_ret
        exact ⟨by first | rfl | (simp; done) | (simp [*]; done), by repeat (first | exact Drawn0.refl _ | apply Drawn0.step)⟩
      · rw [if_neg c6] at H
        have c6b0 : decide (1 ≤ a2) = false := decide_eq_false c6
        clear c6
        obtain rfl := Option.some.inj H
        go_enter Try.func10, Try.ntmps10
        go_wp2
        go_ret
        exact ⟨by first | rfl | (simp; done) | (simp [*]; done), by repeat (first | exact Drawn0.refl _ | apply Drawn0.step)⟩
    · rw [if_neg c5] at H
      have c5b0 : decide (a0 ≤ 9999) = false := decide_eq_false c5
      clear c5
      obtain rfl := Option.some.inj H
      go_enter Try.func10, Try.ntmps10
      go_wp2
      go_ret
      exact ⟨by first | rfl | (simp; done) | (simp [*]; done), by repeat (first | exact Drawn0.refl _ | apply Drawn0.step)⟩
  · rw [if_neg c4] at H
    have c4b0 : decide ((-9999) ≤ a0) = false := decide_eq_false c4
    clear c4
    obtain rfl := Option.some.inj H
    go_enter Try.func10, Try.ntmps10
    go_wp2
    go_ret
    exact ⟨by first | rfl | (simp; done) | (simp [*]; done), by repeat (first | exact Drawn0.refl _ | apply Drawn0.step)⟩

end Go.Proofs.Ytahpmeijinndhaa.P
