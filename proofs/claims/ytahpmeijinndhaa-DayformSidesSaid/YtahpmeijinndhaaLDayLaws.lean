/-
  The statements DayformWeeks and DayformSides over numbers alone.
-/
import Derived.Test.YtahpmeijinndhaaLDay
import Derived.Test.YtahpmeijinndhaaPxf3
import Derived.Test.YtahpmeijinndhaaPxf4
namespace Go.Proofs.Ytahpmeijinndhaa.P
open Go.RowKit Go.Proofs.YtahpmeijinndhaaW.PrintWords
set_option linter.unusedVariables false

set_option maxRecDepth 100000 in
theorem alive06_at : noonmarklaw06_alive.f 6 = some true := by decide +kernel
theorem alive06 (k : Nat) (h : 6 ≤ k) : noonmarklaw06_alive.f k = some true := at_rounds noonmarklaw06_alive.mono h alive06_at

theorem weeks_j (k : Nat) (hk : 6 ≤ k) (a b c y m n at_ : Int) (h : drightB a b c = true) (hat : at_ = if a = 1 then longP y m else b) (hr : rightB y m at_ = true)
    (hn : n = if a = 0 then numP y m at_ else if a = 2 then numP y m at_ + (c - (numP y m at_ + 4) % 7 + 7) % 7 else numP y m at_ - (7 - (c - (numP y m at_ + 4) % 7 + 7) % 7) % 7) :
    noonmarklaw06_DayformWeeks.j0 (k + 1) y m n at_ a b c = some true := by
  obtain ⟨k, rfl⟩ : ∃ j, k = j + 1 := ⟨k - 1, by omega⟩
  have hd : 0 ≤ a ∧ a ≤ 3 ∧ 0 ≤ c ∧ c ≤ 6 ∧ (a = 1 → b = 0) ∧ (a ≠ 1 → 1 ≤ b ∧ b ≤ 31) ∧ (a = 0 → c = 0) := by unfold drightB at h; exact of_decide_eq_true h
  have h1 := (rightB_iff y m at_).1 hr
  have h2 := rightB_m hr
  have h3 := numP_bd y m at_ (by omega) (by omega) (by omega) (by omega) (by omega) (by omega)
  simp only [noonmarklaw06_DayformWeeks.j0]
  rw [civil_Days_eq, alive06 _ hk]
  simp only [Option.bind_some, daysP, if_pos hr]
  rw [if_pos trivial]
  generalize numP y m at_ = z at *
  by_cases h0 : a = 0
  · rw [if_pos h0] at hn
    rw [if_pos h0, if_pos hn]
  · rw [if_neg h0] at hn
    rw [if_neg h0]
    by_cases h2' : a = 2
    · rw [if_pos h2'] at hn
      rw [if_pos h2', civil_Week_eq _ (by omega) (by omega)]
      simp only [Option.bind_some]
      rw [if_pos (by omega), if_pos (by omega), IntWalk.wrap64_in _ (by omega), if_pos (by omega)]
    · rw [if_neg h2'] at hn
      rw [if_neg h2', civil_Week_eq _ (by omega) (by omega)]
      simp only [Option.bind_some]
      rw [if_pos (by omega), if_pos (by omega), IntWalk.wrap64_in _ (by omega), if_pos (by omega)]

theorem Weeks (a b c y m : Int) : noonmarklaw06_DayformWeeks.f 10 a b c y m = some true := by
  unfold noonmarklaw06_DayformWeeks.f
  rw [dayform_Of_eq, civil_Long_eq, alive06 _ (by omega)]
  simp only [Option.bind_some, ofP]
  by_cases h : drightB a b c = true
  · simp only [if_pos h]
    by_cases h1 : a = 1
    · simp only [if_pos h1]
      by_cases hr : rightB y m (longP y m) = true
      · simp only [if_pos hr]
        rw [if_pos trivial]
        exact weeks_j 9 (by omega) a b c y m _ _ h (by rw [if_pos h1]) hr rfl
      · simp only [if_neg hr]
        rw [if_neg (by decide), if_pos trivial]
    · simp only [if_neg h1]
      by_cases hr : rightB y m b = true
      · simp only [if_pos hr]
        rw [if_pos trivial]
        exact weeks_j 9 (by omega) a b c y m _ _ h (by rw [if_neg h1]) hr rfl
      · simp only [if_neg hr]
        rw [if_neg (by decide), if_pos trivial]
  · simp only [if_neg h]
    rw [if_neg (by decide), if_pos trivial]

theorem sides_j1 (k : Nat) (hk : 6 ≤ k) (a b c d : Int) : noonmarklaw06_DayformSides.j0 (k + 1) a b c d true = some true := by
  simp only [noonmarklaw06_DayformSides.j0]
  rw [if_pos trivial, alive06 _ hk]; rfl
theorem Sides (a b c d : Int) : noonmarklaw06_DayformSides.f 10 a b c d = some true := by
  unfold noonmarklaw06_DayformSides.f
  by_cases h1 : a < 0
  · rw [if_pos h1, sides_j1 _ (by omega)]
  by_cases h2 : a > 6
  · rw [if_neg h1, if_pos h2, sides_j1 _ (by omega)]
  by_cases h3 : b < 1
  · rw [if_neg h1, if_neg h2, if_pos h3, sides_j1 _ (by omega)]
  by_cases h4 : b > 25
  · rw [if_neg h1, if_neg h2, if_neg h3, if_pos h4, sides_j1 _ (by omega)]
  rw [if_neg h1, if_neg h2, if_neg h3, if_neg h4, IntWalk.wrap64_in _ (by omega), civil_Right_eq]
  simp only [Option.bind_some]
  by_cases hr : rightB c d (b + 6) = true
  · rw [hr]
    have hq := (rightB_iff c d (b + 6)).1 hr
    have hq2 := rightB_m hr
    have hr0 : rightB c d b = true := (rightB_iff c d b).2 (by omega)
    have h3 := numP_bd c d b (by omega) (by omega) (by omega) (by omega) (by omega) (by omega)
    have e6 := numP_add c d b 6
    have d2 : drightB 2 b a = true := by unfold drightB; simp; omega
    have d3 : drightB 3 (b + 6) a = true := by unfold drightB; simp; omega
    simp only [noonmarklaw06_DayformSides.j0, Bool.not_true]
    rw [if_neg (by decide), IntWalk.wrap64_in _ (by omega), dayform_Of_eq, dayform_Of_eq, alive06 _ (by omega)]
    simp only [Option.bind_some, ofP, if_pos d2, if_pos d3]
    rw [if_neg (show ¬ (2 : Int) = 1 by decide), if_neg (show ¬ (3 : Int) = 1 by decide)]
    simp only [if_pos hr0, if_pos hr]
    rw [if_pos trivial, if_pos trivial]
    rw [if_pos]
    rw [if_neg (by decide), if_pos trivial, if_neg (by decide), if_neg (by decide), e6]
    omega
  · rw [Bool.not_eq_true] at hr
    rw [hr]
    exact sides_j1 9 (by omega) _ _ _ _
end Go.Proofs.Ytahpmeijinndhaa.P
