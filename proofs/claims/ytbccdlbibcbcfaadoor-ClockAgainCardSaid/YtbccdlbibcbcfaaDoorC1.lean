/-
  Times of day: what a text says, in plain words; no program in sight.
-/
import Derived.Test.YtbccdlbibcbcfaaDoorVZ
import Derived.Test.YtbccdlbibcbcfaaDoorVS
import Derived.Lib.ItoaNum
import Derived.Lib.IndexBytes
namespace Go.Proofs.YtbccdlbibcbcfaaDoor.D
set_option linter.unusedVariables false
set_option linter.unusedSimpArgs false
def isD (b : UInt8) : Bool := decide (48 ≤ b.toNat) && decide (b.toNat ≤ 57)
def valF (n : Nat) (l : List UInt8) : Nat := l.foldl (fun n b => n * 10 + (b.toNat - 48)) n
theorem valF_nil (n : Nat) : valF n [] = n := by unfold valF; rw [List.foldl_nil]
theorem valF_cons (n : Nat) (b : UInt8) (t : List UInt8) : valF n (b :: t) = valF (n * 10 + (b.toNat - 48)) t := by unfold valF; rw [List.foldl_cons]
theorem valF_ge : ∀ (l : List UInt8) (n : Nat), n ≤ valF n l := by
  intro l
  induction l with
  | nil => intro n; exact Nat.le_refl _
  | cons b t ih =>
    intro n
    have h := ih (n * 10 + (b.toNat - 48))
    rw [valF_cons]
    generalize b.toNat - 48 = d at *
    generalize valF (n * 10 + d) t = v at *
    omega
theorem valF_lt : ∀ (l : List UInt8) (n : Nat), l.all isD = true → valF n l < (n + 1) * 10 ^ l.length := by
  intro l
  induction l with
  | nil => intro n _; simp [valF]
  | cons b t ih =>
    intro n h
    simp only [List.all_cons, Bool.and_eq_true, isD, decide_eq_true_eq] at h
    rw [valF_cons, List.length_cons, Nat.pow_succ]
    refine Nat.lt_of_lt_of_le (ih _ h.2) ?_
    rw [Nat.mul_comm (10 ^ t.length) 10, ← Nat.mul_assoc]
    exact Nat.mul_le_mul_right _ (by omega)
/-- Digits, so many, at most so great. -/
def numP (least many most : Nat) (l : List UInt8) : Option Nat := if (decide (least ≤ l.length) && decide (l.length ≤ many) && l.all isD && decide (valF 0 l ≤ most)) = true then some (valF 0 l) else none
def numI (least many most : Nat) (l : List UInt8) : Int := match numP least many most l with | some v => v | none => -1
theorem numP_le {least many most : Nat} {l : List UInt8} {v : Nat} (h : numP least many most l = some v) : v ≤ most := by
  unfold numP at h
  split at h
  · rename_i hh; cases h; simp only [Bool.and_eq_true, decide_eq_true_eq] at hh; exact hh.2
  · cases h
/-- Digit by digit, no more than so great. -/
def runN (most : Nat) : Nat → List UInt8 → Option Nat
  | n, [] => some n
  | n, b :: t => if isD b = true then (if most < n * 10 + (b.toNat - 48) then none else runN most (n * 10 + (b.toNat - 48)) t) else none
theorem runN_eq (most : Nat) : ∀ (l : List UInt8) (n : Nat), n ≤ most → runN most n l = if (l.all isD && decide (valF n l ≤ most)) = true then some (valF n l) else none := by
  intro l
  induction l with
  | nil => intro n h; simp [runN, valF, h]
  | cons b t ih =>
    intro n h
    simp only [runN, List.all_cons, valF_cons]
    by_cases hb : isD b = true
    · rw [if_pos hb]
      by_cases hm : most < n * 10 + (b.toNat - 48)
      · rw [if_pos hm, if_neg]
        have := valF_ge t (n * 10 + (b.toNat - 48))
        simp only [Bool.and_eq_true, decide_eq_true_eq, not_and]
        intro _
        omega
      · rw [if_neg hm, ih _ (by omega), hb]; simp
    · rw [if_neg hb, if_neg]
      simp [hb]
theorem numP_run (least many most : Nat) (l : List UInt8) : numP least many most l = (runN most 0 l).bind fun v => if least ≤ l.length ∧ l.length ≤ many then some v else none := by
  rw [runN_eq most l 0 (Nat.zero_le _)]
  unfold numP
  by_cases h1 : (l.all isD && decide (valF 0 l ≤ most)) = true
  · rw [if_pos h1, Option.bind_some]
    simp only [Bool.and_eq_true, decide_eq_true_eq] at h1 ⊢
    by_cases h2 : least ≤ l.length ∧ l.length ≤ many
    · rw [if_pos ⟨⟨⟨h2.1, h2.2⟩, h1.1⟩, h1.2⟩, if_pos h2]
    · rw [if_neg h2, if_neg (fun h => h2 ⟨h.1.1.1, h.1.1.2⟩)]
  · rw [if_neg h1, if_neg]
    · rfl
    · intro h
      apply h1
      simp only [Bool.and_eq_true, decide_eq_true_eq] at h ⊢
      exact ⟨h.1.2, h.2⟩
/-- Parts between a byte. -/
def splitC (c : UInt8) : List UInt8 → List (List UInt8)
  | [] => [[]]
  | b :: t => if b = c then [] :: splitC c t else (match splitC c t with | h :: r => (b :: h) :: r | [] => [[b]])
theorem splitC_cons (c b : UInt8) (t : List UInt8) : splitC c (b :: t) = if b = c then [] :: splitC c t else (match splitC c t with | h :: r => (b :: h) :: r | [] => [[b]]) := rfl
theorem splitC_ne (c : UInt8) (l : List UInt8) : ∃ h r, splitC c l = h :: r := by
  cases l with
  | nil => exact ⟨_, _, rfl⟩
  | cons b t =>
    unfold splitC
    split
    · exact ⟨_, _, rfl⟩
    · split <;> exact ⟨_, _, rfl⟩
theorem splitC_no (c : UInt8) (l : List UInt8) (h : c ∉ l) : splitC c l = [l] := by
  induction l with
  | nil => rfl
  | cons b t ih =>
    simp only [List.mem_cons, not_or] at h
    rw [splitC_cons, if_neg (Ne.symm h.1), ih h.2]
theorem splitC_at (c : UInt8) (a b : List UInt8) (h : c ∉ a) : splitC c (a ++ c :: b) = a :: splitC c b := by
  induction a with
  | nil => simp [splitC_cons]
  | cons x t ih =>
    simp only [List.mem_cons, not_or] at h
    rw [List.cons_append, splitC_cons, if_neg (Ne.symm h.1), ih h.2]
theorem split_cases (c : UInt8) (l : List UInt8) : c ∉ l ∨ ∃ a b, l = a ++ c :: b ∧ c ∉ a := by
  induction l with
  | nil => exact .inl (by simp)
  | cons x t ih =>
    by_cases h : x = c
    · subst h; exact .inr ⟨[], t, rfl, by simp⟩
    · rcases ih with ih | ⟨a, b, rfl, ha⟩
      · exact .inl (by simp [ih, Ne.symm h])
      · exact .inr ⟨x :: a, b, rfl, by simp [ha, Ne.symm h]⟩
theorem splitC_len (c : UInt8) : ∀ (l : List UInt8), (splitC c l).length = l.count c + 1 := by
  intro l
  induction l with
  | nil => rfl
  | cons b t ih =>
    rw [splitC_cons]
    by_cases h : b = c
    · subst h; simp [ih]
    · rw [if_neg h, List.count_cons_of_ne h]
      obtain ⟨x, r, e⟩ := splitC_ne c t
      rw [e] at ih ⊢
      simpa using ih
theorem indexByte_mem (l : List UInt8) (c : UInt8) : decide (0 ≤ Lib.indexByte l c) = decide (c ∈ l) := by
  induction l with
  | nil => simp [Lib.indexByte]
  | cons b t ih =>
    unfold Lib.indexByte
    by_cases h : b = c
    · subst h; simp
    · have hb : ¬ (b == c) = true := by simpa using h
      rw [if_neg hb]
      have hge := Lib.indexByte_ge t c
      have hm : (c ∈ b :: t) = (c ∈ t) := by simp [Ne.symm h]
      simp only [hm, ← ih]
      split
      · rename_i e
        have := beq_iff_eq.1 e
        rw [this]
      · rename_i e
        have : Lib.indexByte t c ≠ -1 := fun x => e (beq_iff_eq.2 x)
        simp only [decide_eq_decide]
        omega
theorem indexByte_no {c : UInt8} {l : List UInt8} (h : c ∉ l) : Lib.indexByte l c = -1 := by
  have := indexByte_mem l c
  simp only [h, decide_false, decide_eq_false_iff_not] at this
  have := Lib.indexByte_ge l c
  omega
theorem indexByte_app {c : UInt8} : ∀ {a : List UInt8} (b : List UInt8), c ∉ a → Lib.indexByte (a ++ c :: b) c = a.length := by
  intro a
  induction a with
  | nil => intro b _; simp [Lib.indexByte]
  | cons x t ih =>
    intro b h
    simp only [List.mem_cons, not_or] at h
    rw [List.cons_append]
    unfold Lib.indexByte
    rw [if_neg (by simpa using Ne.symm h.1), ih b h.2, if_neg (by simp)]
    simp
/-- The seconds that parts say. -/
def secP : List (List UInt8) → Option Nat
  | [a] => (numP 1 3 167 a).map fun h => h * 3600
  | [a, b] => (numP 1 3 167 a).bind fun h => (numP 2 2 59 b).map fun m => h * 3600 + m * 60
  | [a, b, c] => (numP 1 3 167 a).bind fun h => (numP 2 2 59 b).bind fun m => (numP 2 2 59 c).map fun x => h * 3600 + m * 60 + x
  | _ => none
def timeP (s : List UInt8) : Option Int :=
  if s = [45] then some 0 else if [45] <+: s then (secP (splitC 58 (s.drop 1))).map fun n => -(n : Int) else (secP (splitC 58 s)).map fun n => (n : Int)
theorem secP_le {p : List (List UInt8)} {n : Nat} (h : secP p = some n) : n ≤ 604799 := by
  unfold secP at h
  split at h
  · rename_i a
    cases h1 : numP 1 3 167 a with
    | none => rw [h1] at h; cases h
    | some v => simp only [h1, Option.map_some, Option.some.injEq] at h; have := numP_le h1; omega
  · rename_i a b
    cases h1 : numP 1 3 167 a with
    | none => rw [h1] at h; cases h
    | some v =>
      cases h2 : numP 2 2 59 b with
      | none => rw [h1, h2] at h; cases h
      | some w => simp only [h1, h2, Option.bind_some, Option.map_some, Option.some.injEq] at h; have := numP_le h1; have := numP_le h2; omega
  · rename_i a b c
    cases h1 : numP 1 3 167 a with
    | none => rw [h1] at h; cases h
    | some v =>
      cases h2 : numP 2 2 59 b with
      | none => rw [h1, h2] at h; cases h
      | some w =>
        cases h3 : numP 2 2 59 c with
        | none => rw [h1, h2, h3] at h; cases h
        | some x => simp only [h1, h2, h3, Option.bind_some, Option.map_some, Option.some.injEq] at h; have := numP_le h1; have := numP_le h2; have := numP_le h3; omega
  · cases h
theorem timeP_le {s : List UInt8} {n : Int} (h : timeP s = some n) : -604799 ≤ n ∧ n ≤ 604799 := by
  unfold timeP at h
  split at h
  · cases h; decide
  · split at h
    · cases h1 : secP (splitC 58 (s.drop 1)) with
      | none => rw [h1] at h; cases h
      | some v => rw [h1] at h; have h2 := secP_le h1; have h3 := Option.some.inj h; simp only at h3; subst h3; constructor <;> omega
    · cases h1 : secP (splitC 58 s) with
      | none => rw [h1] at h; cases h
      | some v => rw [h1] at h; have h2 := secP_le h1; have h3 := Option.some.inj h; simp only at h3; subst h3; constructor <;> omega
/-- A text without its suffix, and the kind of time. -/
def sufP (s : List UInt8) : List UInt8 × Int :=
  if s.length < 2 then (s, 0) else match s.getLast? with
    | some 119 => (s.dropLast, 0)
    | some 115 => (s.dropLast, 1)
    | some 117 => (s.dropLast, 2)
    | some 103 => (s.dropLast, 2)
    | some 122 => (s.dropLast, 2)
    | _ => (s, 0)
def parseP (s : List UInt8) : Option (Int × Int) := if (sufP s).1 = [45] ∧ s ≠ (sufP s).1 then none else (timeP (sufP s).1).map fun n => (n, (sufP s).2)
def amountP (s : List UInt8) : Option Int := match timeP s with | some n => if n > 86400 ∨ n < -86400 then none else some n | none => none
/-! ### What is shown -/
def dg (n : Nat) : UInt8 := UInt8.ofNat (48 + n)
def pairP (n : Nat) : List UInt8 := [58, dg (n / 10), dg (n % 10)]
def hourP (h : Nat) : List UInt8 := Lib.decDigits h
def natP (n : Nat) : List UInt8 := hourP (n / 3600) ++ pairP (n / 60 % 60) ++ (if 0 < n % 60 then pairP (n % 60) else [])
def textP (n : Int) : List UInt8 := (if n < 0 then [45] else []) ++ natP n.natAbs
def kindP (k : Int) : List UInt8 := if k = 1 then [115] else if k = 2 then [117] else []
def showP (n k : Int) : Option (List UInt8) := if n ≤ -604800 ∨ 604800 ≤ n ∨ k < 0 ∨ 2 < k then none else some (textP n ++ kindP k)
def showAmountP (n : Int) : Option (List UInt8) := if n < -86400 ∨ 86400 < n then none else some (textP n)
end Go.Proofs.YtbccdlbibcbcfaaDoor.D
