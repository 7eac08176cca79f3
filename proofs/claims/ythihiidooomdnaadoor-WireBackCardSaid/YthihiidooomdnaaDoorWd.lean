import Derived.Test.YthihiidooomdnaaDoorVS
import Derived.Lib.ItoaNum
namespace Go.Proofs.YthihiidooomdnaaDoor.D
open Go.RowKit
set_option linter.unusedVariables false
set_option linter.unusedSimpArgs false
abbrev dd (n : Nat) : List UInt8 := Lib.decDigits n
theorem dd_lt {n : Nat} (h : n < 10) : dd n = [UInt8.ofNat (48 + n)] := by unfold dd; rw [Lib.decDigits, dif_pos h]
theorem dd_ge {n : Nat} (h : 10 ≤ n) : dd n = dd (n / 10) ++ [UInt8.ofNat (48 + n % 10)] := by unfold dd; rw [Lib.decDigits, dif_neg (by omega)]
theorem dd_len : ∀ (k n : Nat), n < 10 ^ (k + 1) → (dd n).length ≤ k + 1 := by
  intro k
  induction k with
  | zero => intro n h; rw [dd_lt (by simpa using h)]; simp
  | succ k ih =>
    intro n h
    by_cases h10 : n < 10
    · rw [dd_lt h10]; simp
    · rw [dd_ge (by omega)]
      have := ih (n / 10) (by rw [Nat.pow_succ] at h; omega)
      simp; omega
theorem cb_ofNat {d : Nat} (h : d < 10) : (Value.int .u8 ((48 : Int) + (d : Int))) = .int .u8 ((UInt8.ofNat (48 + d)).toNat : Int) := by
  have : (UInt8.ofNat (48 + d)).toNat = 48 + d := by simp [UInt8.toNat_ofNat']; omega
  rw [this]
  congr 1
theorem digits_V : ∀ (k n : Nat), n < k → n < 1000000000 → ∀ m, LV CV (.call 12) [.int .i64 n] m [] = some ⟨.ret, [S (dd n)], m, []⟩ := by
  intro k
  induction k with
  | zero => intro n h; omega
  | succ k ih =>
    intro n h hn m
    refine R12 ?_
    have r1 : (n : Int).tmod 10 = ((n % 10 : Nat) : Int) := by rw [Int.tmod_eq_emod_of_nonneg (by omega)]; rfl
    have w1 : IntKind.wrap .i64 (48 + ((n % 10 : Nat) : Int)) = 48 + ((n % 10 : Nat) : Int) := by rw [wrap_i64 (by omega) (by omega)]
    have w2 : IntKind.wrap .u8 (48 + ((n % 10 : Nat) : Int)) = 48 + ((n % 10 : Nat) : Int) := wrap_u8 (by omega) (by omega)
    have hstr : ∀ m, vStr (fz 1 true [[.int .u8 (48 + ((n % 10 : Nat) : Int))]]) m = some (S [UInt8.ofNat (48 + n % 10)]) := fun m => by
      rw [cb_ofNat (by omega)]
      have := vStr_sq true true [UInt8.ofNat (48 + n % 10)] m
      simpa [sq, eb] using this
    by_cases h10 : n < 10
    · have hg : (n : Int) < 10 := by omega
      rw [dd_lt h10]
      have e : n % 10 = n := Nat.mod_eq_of_lt h10
      rw [e] at r1 w1 w2 hstr
      generalize UInt8.ofNat (48 + n) = cc at *
      simp [x12, r1, w1, w2, hstr, hg]
    · have hg : ¬ (n : Int) < 10 := by omega
      have q1 : (n : Int).tdiv 10 = ((n / 10 : Nat) : Int) := by rw [Int.tdiv_eq_ediv_of_nonneg (by omega)]; rfl
      have w3 : IntKind.wrap .i64 ((n / 10 : Nat) : Int) = ((n / 10 : Nat) : Int) := wrap_i64 (by omega) (by omega)
      have hi := fun m => ih (n / 10) (by omega) (by omega) m
      have hlen := dd_len 17 (n / 10) (by omega)
      rw [dd_ge (by omega)]
      have hl2 : (dd (n / 10)).length + 1 ≤ 4611686018427387904 := by omega
      generalize hD : n % 10 = D at *
      generalize hU : n / 10 = U at *
      generalize UInt8.ofNat (48 + D) = cc at *
      simp [x12, r1, w1, w2, hstr, hg, q1, w3, hi, hl2]
theorem small_V {n : Nat} (h : n < 100) (m : Mem) : LV CV (.call 23) [.int .i64 n] m [] = some ⟨.ret, [S (dd n)], m, []⟩ := by
  rw [L_g (k := .pure gSmall) (by rfl)]
  have h2 : (n : Int) < 100 := by omega
  simp [gkV, gSmall, h2]
theorem numD_V {n : Nat} (h0 : 1 ≤ n) (h : n < 1000000000) (m : Mem) : LV CV (.call 24) [.int .u64 n] m [] = some ⟨.ret, [.int .i64 (Lib.nDigits n)], m, []⟩ := by
  rw [L_g (k := .pure gNumD) (by rfl)]
  have h1 : (1 : Int) ≤ n := by omega
  have h2 : (n : Int) < 18446744073709551616 := by omega
  simp [gkV, gNumD, h1, h2]
end Go.Proofs.YthihiidooomdnaaDoor.D
