/-
  Numbers in texts: as they are meant.
-/
import Derived.Test.YtibklmjoepckdaaDoorKn
namespace Go.Proofs.YtibklmjoepckdaaDoor.D
open Go.RowKit
set_option linter.unusedVariables false
set_option linter.unusedSimpArgs false
theorem wrap_u8_mod (n : Int) : IntKind.wrap .u8 n = n % 256 := by
  have e1 : (IntKind.u8.signed && decide (n % (2 ^ IntKind.u8.bits : Int) ≥ (2 ^ (IntKind.u8.bits - 1) : Int))) = false := rfl
  unfold IntKind.wrap
  simp only [e1]
  rfl
theorem wrap_u64_mod (n : Int) : IntKind.wrap .u64 n = n % 18446744073709551616 := by
  have e1 : (IntKind.u64.signed && decide (n % (2 ^ IntKind.u64.bits : Int) ≥ (2 ^ (IntKind.u64.bits - 1) : Int))) = false := rfl
  unfold IntKind.wrap
  simp only [e1]
  rfl
theorem wrap_u64 {n : Int} (h : 0 ≤ n) (h2 : n < 18446744073709551616) : IntKind.wrap .u64 n = n := by rw [wrap_u64_mod]; omega
def valD (u : Nat) (l : List UInt8) : Nat := l.foldl (fun n c => n * 10 + (c.toNat - 48)) u
theorem valD_cons (u : Nat) (c : UInt8) (l : List UInt8) : valD u (c :: l) = valD (u * 10 + (c.toNat - 48)) l := by unfold valD; rw [List.foldl_cons]
theorem valD_ge (l : List UInt8) : ∀ u, u * 10 ^ l.length ≤ valD u l := by
  induction l with
  | nil => intro u; simp [valD]
  | cons c t ih =>
    intro u
    have h := ih (u * 10 + (c.toNat - 48))
    rw [← valD_cons] at h
    have e : u * 10 ^ (c :: t).length = u * 10 * 10 ^ t.length := by rw [List.length_cons, Nat.pow_succ, Nat.mul_assoc, Nat.mul_comm 10 (10 ^ t.length)]
    rw [e]
    generalize 10 ^ t.length = p at *
    have h2 : u * 10 * p ≤ (u * 10 + (c.toNat - 48)) * p := Nat.mul_le_mul_right p (Nat.le_add_right _ _)
    exact Nat.le_trans h2 h
theorem valD_mono (l : List UInt8) (u : Nat) : u ≤ valD u l := by
  have := valD_ge l u
  have h2 : 1 ≤ 10 ^ l.length := Nat.one_le_pow _ _ (by decide)
  calc u = u * 1 := (Nat.mul_one u).symm
    _ ≤ u * 10 ^ l.length := Nat.mul_le_mul_left _ h2
    _ ≤ _ := this
theorem valD_lt (l : List UInt8) : l.all digitB = true → ∀ u, valD u l < (u + 1) * 10 ^ l.length := by
  induction l with
  | nil => intro _ u; simp [valD]
  | cons c t ih =>
    intro hd u
    simp only [List.all_cons, Bool.and_eq_true] at hd
    have hc : 48 ≤ c.toNat ∧ c.toNat ≤ 57 := by simpa [digitB] using hd.1
    have h := ih hd.2 (u * 10 + (c.toNat - 48))
    rw [← valD_cons] at h
    have e : (u + 1) * 10 ^ (c :: t).length = (u + 1) * 10 * 10 ^ t.length := by rw [List.length_cons, Nat.pow_succ, Nat.mul_assoc, Nat.mul_comm 10 (10 ^ t.length)]
    rw [e]
    generalize 10 ^ t.length = p at *
    have h2 : (u * 10 + (c.toNat - 48) + 1) * p ≤ (u + 1) * 10 * p := Nat.mul_le_mul_right p (by omega)
    exact Nat.lt_of_lt_of_le h h2
def lowT (l : List UInt8) : Bool × List UInt8 := match l with | 45 :: t => (true, t) | l => (false, l)
/-- A number and its kind: 0: it is one; 2: too great; 3: none. -/
def pintT (low : Bool) (t l : List UInt8) : Int × Int :=
  match t with
  | [] => (0, 3)
  | c :: r => if c = 48 ∧ l ≠ [48] then (0, 3) else if t.all digitB = true then (if low = true then (if valD 0 t ≤ 9223372036854775808 then (-(valD 0 t : Int), 0) else (0, 2)) else (if valD 0 t ≤ 9223372036854775807 then ((valD 0 t : Int), 0) else (0, 2))) else (0, 3)
def pint (l : List UInt8) : Int × Int := pintT (lowT l).1 (lowT l).2 l
/-- A year. -/
def yearP (l : List UInt8) : Int × Int := if (pint l).2 = 0 ∧ 1 ≤ (pint l).1 ∧ (pint l).1 ≤ 9999 then ((pint l).1, 0) else (0, 8)
def toP (l : List UInt8) (from_ : Int) : Int × Int := if oneW l toW = 1 then (from_, 0) else if oneW l toW = 2 then (10000, 0) else if (yearP l).2 = 0 ∧ from_ ≤ (yearP l).1 then yearP l else (0, 8)
/-- Decimal digits. -/
def decF : Nat → Nat → List UInt8
  | 0, _ => []
  | k + 1, n => if n < 10 then [UInt8.ofNat (48 + n)] else decF k (n / 10) ++ [UInt8.ofNat (48 + n % 10)]
def decP (n : Nat) : List UInt8 := decF (n + 1) n
theorem decF_eq : ∀ (k k' n : Nat), n < k → n < k' → decF k n = decF k' n := by
  intro k
  induction k with
  | zero => intro k' n h; omega
  | succ k ih =>
    intro k' n h h'
    obtain ⟨j, rfl⟩ : ∃ j, k' = j + 1 := ⟨k' - 1, by omega⟩
    unfold decF
    by_cases h10 : n < 10
    · rw [if_pos h10, if_pos h10]
    · rw [if_neg h10, if_neg h10, ih j (n / 10) (by omega) (by omega)]
theorem decP_lt {n : Nat} (h : n < 10) : decP n = [UInt8.ofNat (48 + n)] := by unfold decP decF; rw [if_pos h]
theorem decP_ge {n : Nat} (h : 10 ≤ n) : decP n = decP (n / 10) ++ [UInt8.ofNat (48 + n % 10)] := by
  have : decP n = if n < 10 then [UInt8.ofNat (48 + n)] else decF n (n / 10) ++ [UInt8.ofNat (48 + n % 10)] := rfl
  rw [this, if_neg (by omega), decF_eq n (n / 10 + 1) (n / 10) (by omega) (by omega)]
  rfl
theorem decP_len : ∀ (k n : Nat), n < 10 ^ (k + 1) → (decP n).length ≤ k + 1 := by
  intro k
  induction k with
  | zero => intro n h; rw [decP_lt (by simpa using h)]; simp
  | succ k ih =>
    intro n h
    by_cases h10 : n < 10
    · rw [decP_lt h10]; simp
    · rw [decP_ge (by omega)]
      have := ih (n / 10) (by rw [Nat.pow_succ] at h; omega)
      simp; omega
/-- What was shown is read. -/
theorem decP_digits : ∀ (k n : Nat), n < k → (decP n).all digitB = true ∧ (∀ u, valD u (decP n) = u * 10 ^ (decP n).length + n) ∧ (0 < n → (decP n).head? ≠ some 48) ∧ decP n ≠ [] := by
  intro k
  induction k with
  | zero => intro n h; omega
  | succ k ih =>
    intro n h
    have dg : ∀ d, d < 10 → (UInt8.ofNat (48 + d)).toNat = 48 + d := fun d hd => ofNat_toNat (by omega)
    by_cases h10 : n < 10
    · rw [decP_lt h10]
      refine ⟨by simp [digitB, dg n h10]; omega, fun u => ?_, fun h0 e => ?_, by simp⟩
      · rw [valD_cons, dg n h10]; simp [valD]
      · simp only [List.head?_cons, Option.some.injEq] at e
        have := congrArg UInt8.toNat e
        rw [dg n h10] at this
        have h48 : (48 : UInt8).toNat = 48 := rfl
        omega
    · obtain ⟨i1, i2, i3, i4⟩ := ih (n / 10) (by omega)
      rw [decP_ge (by omega)]
      have hm := dg (n % 10) (by omega)
      refine ⟨?_, fun u => ?_, fun h0 => ?_, by simp⟩
      · rw [List.all_append, i1]
        simp [digitB, hm]; omega
      · have : valD u (decP (n / 10) ++ [UInt8.ofNat (48 + n % 10)]) = valD (valD u (decP (n / 10))) [UInt8.ofNat (48 + n % 10)] := by unfold valD; rw [List.foldl_append]
        rw [this, i2, valD_cons, hm]
        show (u * 10 ^ (decP (n / 10)).length + n / 10) * 10 + (48 + n % 10 - 48) = _
        rw [List.length_append, List.length_singleton, Nat.pow_succ]
        generalize 10 ^ (decP (n / 10)).length = p
        have : u * (p * 10) = u * p * 10 := (Nat.mul_assoc u p 10).symm
        omega
      · have := i3 (by omega)
        cases hd : decP (n / 10) with
        | nil => exact absurd hd i4
        | cons a t => rw [hd] at this; simpa using this
end Go.Proofs.YtibklmjoepckdaaDoor.D
