-- Written for this claim by a turned copy of the kit's print program (gprint_patch.py). Not trusted: Lean checks it.
import Derived.Test.YtahpmeijinndhaaPx0
namespace Go.Proofs.Ytahpmeijinndhaa.P
open Go.RowKit Go.Proofs.YtahpmeijinndhaaW.PrintWords Go.Proofs.YtahpmeijinndhaaW.PrintLast Go.Proofs.YtahpmeijinndhaaW.PrintMore
attribute [local go_sem] max2_int min2_int max_two min_two max_three min_three max_four min_four   -- for this text's walks alone
set_option linter.unusedVariables false
set_option linter.unusedSimpArgs false

/-! ### civil_Week: function 9 -/
def civil_Week.f (a0 : Int) : Option (Int) := if (Int.tmod (wrap64 ((Int.tmod a0 7) + 4)) 7) < 0 then (some (wrap64 ((Int.tmod (wrap64 ((Int.tmod a0 7) + 4)) 7) + 7))) else (some (Int.tmod (wrap64 ((Int.tmod a0 7) + 4)) 7))
set_option maxHeartbeats 8000000 in
set_option maxRecDepth 100000 in
theorem civil_Week.calls (a0 : Int) (r : Int) (w : World) (hG : GOK w) (h : civil_Week.f a0 = some r) :
    Calls Try.prog 9 #[.int .i64 a0] w fun e w' => e = .returned (.int .i64 r) ∧ Drawn0 w w' := by
  have H : (if (Int.tmod (wrap64 ((Int.tmod a0 7) + 4)) 7) < 0 then (some (wrap64 ((Int.tmod (wrap64 ((Int.tmod a0 7) + 4)) 7) + 7))) else (some (Int.tmod (wrap64 ((Int.tmod a0 7) + 4)) 7))) = some r := h
  clear h
  by_cases c2 : (Int.tmod (wrap64 ((Int.tmod a0 7) + 4)) 7) < 0
  · rw [if_pos c2] at H
    have c2b0 : decide ((Int.tmod (wrap64 ((Int.tmod a0 7) + 4)) 7) < 0) = true := decide_eq_true c2
    clear c2
    obtain rfl := Option.some.inj H
    go_enter Try.func9, Try.ntmps9
    go_wp2
    go_ret
    exact ⟨by first | rfl | (simp; done) | (simp [*]; done), by repeat (first | exact Drawn0.refl _ | apply Drawn0.step)⟩
  · rw [if_neg c2] at H
    have c2b0 : decide ((Int.tmod (wrap64 ((Int.tmod a0 7) + 4)) 7) < 0) = false := decide_eq_false c2
    clear c2
    obtain rfl := Option.some.inj H
    go_enter Try.func9, Try.ntmps9
    go_wp2
    go_ret
    exact ⟨by first | rfl | (simp; done) | (simp [*]; done), by repeat (first | exact Drawn0.refl _ | apply Drawn0.step)⟩

end Go.Proofs.Ytahpmeijinndhaa.P
