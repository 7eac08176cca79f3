/-
  The plain law behind the statements on days of a month: what the printed functions of civil and dayform come to, over numbers alone.
-/
import Derived.Test.YtahpmeijinndhaaPxf5
import Derived.IntWalk
namespace Go.Proofs.Ytahpmeijinndhaa.P
open Go.RowKit Go.Proofs.YtahpmeijinndhaaW.PrintWords
set_option linter.unusedVariables false

theorem tdiv_nn {a b : Int} (h : 0 ≤ a) : Int.tdiv a b = a / b := Int.tdiv_eq_ediv_of_nonneg h
theorem tmod_nn {a b : Int} (h : 0 ≤ a) : Int.tmod a b = a % b := Int.tmod_eq_emod_of_nonneg h
theorem tmod_np {a b : Int} (h : a < 0) : Int.tmod a b = -((-a) % b) := by
  have e : a = -(-a) := by omega
  rw [e, Int.neg_tmod, tmod_nn (by omega)]
  simp

def numQ (y m d : Int) : Int := (y + 12000) / 400 * 146097 + (y + 12000 - (y + 12000) / 400 * 400) * 365 + (y + 12000 - (y + 12000) / 400 * 400) / 4 - (y + 12000 - (y + 12000) / 400 * 400) / 100 + ((153 * (m - 3) + 2) / 5 + d - 1) - 5102378
/-- The number of a day. -/
def numP (y m d : Int) : Int := if m ≤ 2 then numQ (y - 1) (m + 12) d else numQ y m d

theorem numP_bd (y m d : Int) (h1 : -9999 ≤ y) (h2 : y ≤ 9999) (h3 : 1 ≤ m) (h4 : m ≤ 12) (h5 : 1 ≤ d) (h6 : d ≤ 31) : -6000000 ≤ numP y m d ∧ numP y m d ≤ 6000000 := by
  unfold numP numQ
  split <;> omega
theorem numP_add (y m d j : Int) : numP y m (d + j) = numP y m d + j := by
  unfold numP numQ
  split <;> omega

theorem civil_number_eq (y m d : Int) (h1 : -9999 ≤ y) (h2 : y ≤ 9999) (h3 : 1 ≤ m) (h4 : m ≤ 12) (h5 : 1 ≤ d) (h6 : d ≤ 31) : civil_number.f y m d = some (numP y m d) := by
  unfold civil_number.f numP numQ
  split
  · simp (disch := omega) only [IntWalk.wrap64_in, tdiv_nn]
  · simp (disch := omega) only [IntWalk.wrap64_in, tdiv_nn]

theorem civil_Week_eq (n : Int) (h1 : -1000000000 ≤ n) (h2 : n ≤ 1000000000) : civil_Week.f n = some ((n + 4) % 7) := by
  unfold civil_Week.f
  by_cases h : 0 ≤ n
  · simp (disch := omega) only [IntWalk.wrap64_in, tmod_nn]
    rw [if_neg (by omega)]
    congr 1
    omega
  · simp (disch := omega) only [IntWalk.wrap64_in, tmod_np (show n < 0 by omega)]
    by_cases h' : 0 ≤ -(-n % 7) + 4
    · simp (disch := omega) only [tmod_nn]
      rw [if_neg (by omega)]
      congr 1
      omega
    · simp (disch := omega) only [tmod_np (show -(-n % 7) + 4 < 0 by omega), IntWalk.wrap64_in]
      by_cases h2 : -(-(-(-n % 7) + 4) % 7) < 0
      · rw [if_pos h2]
        congr 1
        omega
      · rw [if_neg h2]
        congr 1
        omega

def leapB (y : Int) : Bool := (civil_Leap.f y).getD false
theorem civil_Leap_eq (y : Int) : civil_Leap.f y = some (leapB y) := by
  unfold leapB civil_Leap.f
  split
  · split <;> rfl
  · rfl

/-- How long a month is; 0: there is none. -/
def longP (y m : Int) : Int := if m < 1 then 0 else if m > 12 then 0 else if m = 2 then (if leapB y = true then 29 else 28) else rd [31, 28, 31, 30, 31, 30, 31, 31, 30, 31, 30, 31] (m - 1)
theorem longP_bd (y m : Int) : 0 ≤ longP y m ∧ longP y m ≤ 31 := by
  unfold longP
  split
  · omega
  · split
    · omega
    · split
      · split <;> omega
      · have : m = 1 ∨ m = 3 ∨ m = 4 ∨ m = 5 ∨ m = 6 ∨ m = 7 ∨ m = 8 ∨ m = 9 ∨ m = 10 ∨ m = 11 ∨ m = 12 := by omega
        rcases this with h | h | h | h | h | h | h | h | h | h | h <;> subst h <;> decide
theorem longP_in (y m : Int) (h : 1 ≤ m) (h' : m ≤ 12) : 28 ≤ longP y m := by
  unfold longP
  rw [if_neg (by omega), if_neg (by omega)]
  split
  · split <;> omega
  · have : m = 1 ∨ m = 3 ∨ m = 4 ∨ m = 5 ∨ m = 6 ∨ m = 7 ∨ m = 8 ∨ m = 9 ∨ m = 10 ∨ m = 11 ∨ m = 12 := by omega
    rcases this with h | h | h | h | h | h | h | h | h | h | h <;> subst h <;> decide
theorem longP_out (y m : Int) (h : m < 1 ∨ 12 < m) : longP y m = 0 := by
  unfold longP
  rcases h with h | h
  · rw [if_pos h]
  · rw [if_neg (by omega), if_pos h]
theorem civil_Long_eq (k : Nat) (y m : Int) : civil_Long.f (k + 1) y m = some (longP y m) := by
  unfold civil_Long.f longP
  by_cases h1 : m < 1
  · rw [if_pos h1, if_pos h1]; rfl
  · rw [if_neg h1, if_neg h1]
    by_cases h2 : m > 12
    · rw [if_pos h2, decide_eq_true h2]; rfl
    · rw [if_neg h2, decide_eq_false h2]
      simp only [civil_Long.j0]
      rw [if_neg (by decide)]
      by_cases h3 : m = 2
      · rw [if_pos h3, if_pos h3, civil_Leap_eq]
        simp only [Option.bind_some]
        subst h3
        split
        · rfl
        · rw [IntWalk.wrap64_in _ (by omega), if_pos (by omega), if_pos (by omega)]; rfl
      · rw [if_neg h3, if_neg h3, IntWalk.wrap64_in _ (by omega), if_pos (by omega), if_pos (by omega)]

def rightB (y m d : Int) : Bool := decide (y ≥ -9999 ∧ y ≤ 9999 ∧ d ≥ 1 ∧ d ≤ longP y m)
theorem civil_Right_eq (k : Nat) (y m d : Int) : civil_Right.f (k + 1) y m d = some (rightB y m d) := by
  unfold civil_Right.f rightB
  rw [civil_Long_eq]
  simp only [Option.bind_some]
  by_cases h1 : y ≥ -9999
  · by_cases h2 : y ≤ 9999
    · by_cases h3 : d ≥ 1
      · rw [if_pos h1, if_pos h2, if_pos h3]; simp [h1, h2, h3]
      · rw [if_pos h1, if_pos h2, if_neg h3]; simp [h3]
    · rw [if_pos h1, if_neg h2]; simp [h2]
  · rw [if_neg h1]; simp [h1]
theorem rightB_iff (y m d : Int) : rightB y m d = true ↔ -9999 ≤ y ∧ y ≤ 9999 ∧ 1 ≤ d ∧ d ≤ longP y m := by unfold rightB; simp
theorem rightB_m {y m d : Int} (h : rightB y m d = true) : 1 ≤ m ∧ m ≤ 12 ∧ d ≤ 31 := by
  have h1 := (rightB_iff y m d).1 h
  have h2 := longP_bd y m
  by_cases h3 : m < 1 ∨ 12 < m
  · have := longP_out y m h3; omega
  · omega

def daysP (y m d : Int) : Int × Int := if rightB y m d = true then (numP y m d, 0) else (0, 6)
theorem civil_Days_eq (k : Nat) (y m d : Int) : civil_Days.f (k + 1) y m d = some (daysP y m d) := by
  unfold civil_Days.f daysP
  rw [civil_Right_eq]
  simp only [Option.bind_some]
  by_cases h : rightB y m d = true
  · have h1 := (rightB_iff y m d).1 h
    have h2 := rightB_m h
    rw [if_pos h, if_pos h, civil_number_eq y m d (by omega) (by omega) (by omega) (by omega) (by omega) (by omega)]
    rfl
  · rw [if_neg h, if_neg h]

def drightB (a b c : Int) : Bool := decide (0 ≤ a ∧ a ≤ 3 ∧ 0 ≤ c ∧ c ≤ 6 ∧ (a = 1 → b = 0) ∧ (a ≠ 1 → 1 ≤ b ∧ b ≤ 31) ∧ (a = 0 → c = 0))
theorem dayform_right_eq (k : Nat) (a b c : Int) : dayform_right.f (k + 1) a b c = some (drightB a b c) := by
  have j1 : ∀ a b c, dayform_right.j0 (k + 1) true a b c = some false := fun a b c => by simp only [dayform_right.j0]; rw [if_pos trivial]
  unfold dayform_right.f
  by_cases h1 : a < 0
  · rw [if_pos h1, j1]; congr 1; symm; unfold drightB; simp; omega
  by_cases h2 : a > 3
  · rw [if_neg h1, if_pos h2, j1]; congr 1; symm; unfold drightB; simp; omega
  by_cases h3 : c < 0
  · rw [if_neg h1, if_neg h2, if_pos h3, j1]; congr 1; symm; unfold drightB; simp; omega
  rw [if_neg h1, if_neg h2, if_neg h3]
  by_cases h4 : c > 6
  · rw [decide_eq_true h4, j1]; congr 1; symm; unfold drightB; simp; omega
  rw [decide_eq_false h4]
  simp only [dayform_right.j0]
  rw [if_neg (by decide)]
  by_cases h5 : a = 1
  · rw [if_pos h5]; congr 1; unfold drightB; rw [Bool.eq_iff_iff]; simp; omega
  rw [if_neg h5]
  by_cases h6 : b ≥ 1
  · rw [if_pos h6]
    by_cases h7 : b ≤ 31
    · rw [if_pos h7]
      by_cases h8 : a > 0
      · rw [if_pos h8]; congr 1; symm; unfold drightB; simp; omega
      · rw [if_neg h8]; congr 1; unfold drightB; rw [Bool.eq_iff_iff]; simp; omega
    · rw [if_neg h7]; congr 1; symm; unfold drightB; simp; omega
  · rw [if_neg h6]; congr 1; symm; unfold drightB; simp; omega

/-- What a day of a month comes to: its number, or why there is none. -/
def ofP (a b c y m : Int) : Int × Int :=
  if drightB a b c = true then
    (let at_ := if a = 1 then longP y m else b
     if rightB y m at_ = true then
       (let n := numP y m at_
        (if a = 0 then n else if a = 2 then n + (c - (n + 4) % 7 + 7) % 7 else n - (7 - (c - (n + 4) % 7 + 7) % 7) % 7, 0))
     else (0, 6))
  else (0, 1)

theorem dayform_Of_j (k : Nat) (a b c y m at_ : Int) (h : drightB a b c = true) : dayform_Of.j0 (k + 2) y m at_ a b c = some (if rightB y m at_ = true then
       (if a = 0 then numP y m at_ else if a = 2 then numP y m at_ + (c - (numP y m at_ + 4) % 7 + 7) % 7 else numP y m at_ - (7 - (c - (numP y m at_ + 4) % 7 + 7) % 7) % 7, 0) else (0, 6)) := by
  have hd : 0 ≤ a ∧ a ≤ 3 ∧ 0 ≤ c ∧ c ≤ 6 ∧ (a = 1 → b = 0) ∧ (a ≠ 1 → 1 ≤ b ∧ b ≤ 31) ∧ (a = 0 → c = 0) := by unfold drightB at h; exact of_decide_eq_true h
  simp only [dayform_Of.j0]
  rw [civil_Days_eq]
  simp only [Option.bind_some, daysP]
  by_cases hr : rightB y m at_ = true
  · have h1 := (rightB_iff y m at_).1 hr
    have h2 := rightB_m hr
    have h3 := numP_bd y m at_ (by omega) (by omega) (by omega) (by omega) (by omega) (by omega)
    simp only [if_pos hr]
    rw [if_pos trivial, civil_Week_eq _ (by omega) (by omega)]
    simp only [Option.bind_some]
    by_cases h0 : a = 0
    · rw [if_pos h0, if_pos h0]
    · rw [if_neg h0, if_neg h0]
      by_cases h2' : a = 2
      · rw [if_pos h2', if_pos h2']
        simp (disch := omega) only [IntWalk.wrap64_in, tmod_nn]
      · rw [if_neg h2', if_neg h2']
        simp (disch := omega) only [IntWalk.wrap64_in, tmod_nn]
  · simp only [if_neg hr]
    rw [if_neg (by decide)]

theorem dayform_Of_eq (k : Nat) (a b c y m : Int) : dayform_Of.f (k + 2) a b c y m = some (ofP a b c y m) := by
  unfold dayform_Of.f ofP
  rw [dayform_right_eq]
  simp only [Option.bind_some]
  by_cases h : drightB a b c = true
  · rw [if_pos h, if_pos h]
    by_cases h1 : a = 1
    · rw [if_pos h1, if_pos h1, civil_Long_eq]
      simp only [Option.bind_some]
      exact dayform_Of_j k a b c y m _ h
    · rw [if_neg h1, if_neg h1]
      exact dayform_Of_j k a b c y m _ h
  · rw [if_neg h, if_neg h]
end Go.Proofs.Ytahpmeijinndhaa.P
