/-
  What is shown: the program's and the document's texts.
-/
import Derived.Test.YtbccdlbibcbcfaaDoorC9
namespace Go.Proofs.YtbccdlbibcbcfaaDoor.D
open Go.RowKit
set_option linter.unusedVariables false
set_option linter.unusedSimpArgs false
theorem dd_lt {n : Nat} (h : n < 10) : Lib.decDigits n = [dg n] := by rw [Lib.decDigits, dif_pos h]; rfl
theorem dd_ge {n : Nat} (h : 10 ≤ n) : Lib.decDigits n = Lib.decDigits (n / 10) ++ [dg (n % 10)] := by rw [Lib.decDigits, dif_neg (by omega)]; rfl
theorem dd_len3 {n : Nat} (h : n < 1000) : (Lib.decDigits n).length ≤ 3 := by
  by_cases h1 : n < 10
  · rw [dd_lt h1]; simp
  · rw [dd_ge (by omega)]
    by_cases h2 : n / 10 < 10
    · rw [dd_lt h2]; simp
    · rw [dd_ge (by omega), dd_lt (by omega)]; simp
theorem cb_dg {d : Nat} (h : d < 10) : (Value.int .u8 ((48 : Int) + (d : Int))) = .int .u8 ((dg d).toNat : Int) := by
  have : (dg d).toNat = 48 + d := by simp [dg, UInt8.toNat_ofNat']; omega
  rw [this]
  congr 1
theorem str2 {a b : Nat} (ha : a < 10) (hb : b < 10) (m : Mem) : vStr (fz 1 true [[.int .u8 ((48 : Int) + (a : Int))], [.int .u8 ((48 : Int) + (b : Int))]]) m = some (S [dg a, dg b]) := by
  rw [cb_dg ha, cb_dg hb]
  have := vStr_sq true true [dg a, dg b] m
  simpa [sq, eb] using this
theorem str1 {a : Nat} (ha : a < 10) (m : Mem) : vStr (fz 1 true [[.int .u8 ((48 : Int) + (a : Int))]]) m = some (S [dg a]) := by
  rw [cb_dg ha]
  have := vStr_sq true true [dg a] m
  simpa [sq, eb] using this
theorem lit2 (a b : Int) (m : Mem) : vLit 1 2 [(.int .u8 (0))] [(0, .int .u8 a), (1, .int .u8 b)] m = some (fz 1 true [[.int .u8 a], [.int .u8 b]], m) := rfl
theorem pair_V {n : Nat} (hn : n < 60) (m : Mem) : LV CV (.call 30) [.int .i64 n] m [] = some ⟨.ret, [S (pairP n)], m, []⟩ := by
  refine R30 ?_
  have q1 : (n : Int).tdiv 10 = ((n / 10 : Nat) : Int) := by rw [Int.tdiv_eq_ediv_of_nonneg (by omega)]; rfl
  have r1 : (n : Int).tmod 10 = ((n % 10 : Nat) : Int) := by rw [Int.tmod_eq_emod_of_nonneg (by omega)]; rfl
  have w1 : IntKind.wrap .i64 ((n / 10 : Nat) : Int) = ((n / 10 : Nat) : Int) := wrap_i64 (by omega) (by omega)
  have w2 : IntKind.wrap .u8 ((n / 10 : Nat) : Int) = ((n / 10 : Nat) : Int) := wrap_u8 (by omega) (by omega)
  have w3 : IntKind.wrap .u8 (48 + ((n / 10 : Nat) : Int)) = 48 + ((n / 10 : Nat) : Int) := wrap_u8 (by omega) (by omega)
  have w4 : IntKind.wrap .u8 ((n % 10 : Nat) : Int) = ((n % 10 : Nat) : Int) := wrap_u8 (by omega) (by omega)
  have w5 : IntKind.wrap .u8 (48 + ((n % 10 : Nat) : Int)) = 48 + ((n % 10 : Nat) : Int) := wrap_u8 (by omega) (by omega)
  have hs := fun m => str2 (a := n / 10) (b := n % 10) (by omega) (by omega) m
  unfold pairP
  generalize n / 10 = A at *
  generalize n % 10 = B at *
  simp [x30, q1, r1, w1, w2, w3, w4, w5, lit2, hs]
theorem two_V {n : Nat} (hn : n < 60) (m : Mem) : LV CV (.call 32) [.int .i64 n] m [] = some ⟨.ret, [S (pairP n)], m, []⟩ := by
  refine R32 ?_
  have q1 : (n : Int).tdiv 10 = ((n / 10 : Nat) : Int) := by rw [Int.tdiv_eq_ediv_of_nonneg (by omega)]; rfl
  have r1 : (n : Int).tmod 10 = ((n % 10 : Nat) : Int) := by rw [Int.tmod_eq_emod_of_nonneg (by omega)]; rfl
  have w1 : IntKind.wrap .i64 ((n / 10 : Nat) : Int) = ((n / 10 : Nat) : Int) := wrap_i64 (by omega) (by omega)
  have w2 : IntKind.wrap .i64 (48 + ((n / 10 : Nat) : Int)) = 48 + ((n / 10 : Nat) : Int) := wrap_i64 (by omega) (by omega)
  have w3 : IntKind.wrap .u8 (48 + ((n / 10 : Nat) : Int)) = 48 + ((n / 10 : Nat) : Int) := wrap_u8 (by omega) (by omega)
  have w4 : IntKind.wrap .i64 (48 + ((n % 10 : Nat) : Int)) = 48 + ((n % 10 : Nat) : Int) := wrap_i64 (by omega) (by omega)
  have w5 : IntKind.wrap .u8 (48 + ((n % 10 : Nat) : Int)) = 48 + ((n % 10 : Nat) : Int) := wrap_u8 (by omega) (by omega)
  have hs := fun m => str2 (a := n / 10) (b := n % 10) (by omega) (by omega) m
  unfold pairP
  generalize n / 10 = A at *
  generalize n % 10 = B at *
  simp [x32, q1, r1, w1, w2, w3, w4, w5, lit2, hs]
theorem rdigits_V : ∀ (k n : Nat), n < 10 ^ (k + 1) → n < 1000000 → ∀ m, LV CV (.call 39) [.int .i64 (-(n : Int))] m [] = some ⟨.ret, [S (Lib.decDigits n)], m, []⟩ := by
  intro k
  induction k with
  | zero =>
    intro n hn hn2 m
    have h10 : n < 10 := by simpa using hn
    refine R39 ?_
    have r1 : (-(n : Int)).tmod 10 = -(n : Int) := by rw [Int.neg_tmod, Int.tmod_eq_of_lt (by omega) (by omega)]
    have w1 : IntKind.wrap .i64 (48 - -(n : Int)) = 48 + (n : Int) := by rw [wrap_i64 (by omega) (by omega)]; omega
    have w2 : IntKind.wrap .u8 (48 + (n : Int)) = 48 + (n : Int) := wrap_u8 (by omega) (by omega)
    have hs := fun m => str1 (a := n) h10 m
    have hg : (-10 : Int) < -(n : Int) := by omega
    rw [dd_lt h10]
    generalize dg n = cc at *
    generalize hN : -(n : Int) = N at *
    simp [x39, r1, w1, w2, hs, hg]
  | succ k ih =>
    intro n hn hn2 m
    refine R39 ?_
    have r1 : (-(n : Int)).tmod 10 = -((n % 10 : Nat) : Int) := by
      rw [Int.neg_tmod, Int.tmod_eq_emod_of_nonneg (by omega)]; rfl
    have w1 : IntKind.wrap .i64 (48 - -((n % 10 : Nat) : Int)) = 48 + ((n % 10 : Nat) : Int) := by rw [wrap_i64 (by omega) (by omega)]; omega
    have w2 : IntKind.wrap .u8 (48 + ((n % 10 : Nat) : Int)) = 48 + ((n % 10 : Nat) : Int) := wrap_u8 (by omega) (by omega)
    have hs := fun m => str1 (a := n % 10) (by omega) m
    by_cases h10 : n < 10
    · have hg : (-10 : Int) < -(n : Int) := by omega
      have e : n % 10 = n := Nat.mod_eq_of_lt h10
      rw [e] at r1 w1 w2 hs
      rw [dd_lt h10]
      generalize dg n = cc at *
      generalize hN : -(n : Int) = N at *
      simp [x39, r1, w1, w2, hs, hg]
    · have hg : ¬ (-10 : Int) < -(n : Int) := by omega
      have q1 : (-(n : Int)).tdiv 10 = -((n / 10 : Nat) : Int) := by
        rw [Int.neg_tdiv, Int.tdiv_eq_ediv_of_nonneg (by omega)]; rfl
      have w3 : IntKind.wrap .i64 (-((n / 10 : Nat) : Int)) = -((n / 10 : Nat) : Int) := wrap_i64 (by omega) (by omega)
      have hi := fun m => ih (n / 10) (by rw [Nat.pow_succ] at hn; omega) (by omega) m
      have hl : (Lib.decDigits (n / 10)).length + 1 ≤ 4611686018427387904 := by
        have h1 : n / 10 < 1000000 := by omega
        by_cases h2 : n / 10 < 1000
        · have := dd_len3 h2; omega
        · rw [dd_ge (by omega), List.length_append]
          by_cases h3 : n / 10 / 10 < 1000
          · have := dd_len3 h3; simp; omega
          · rw [dd_ge (by omega), List.length_append]
            have := dd_len3 (n := n / 10 / 10 / 10) (by omega)
            simp; omega
      rw [dd_ge (by omega)]
      generalize n % 10 = D at *
      generalize n / 10 = U at *
      generalize Lib.decDigits U = DU at *
      generalize dg D = cc at *
      generalize -(U : Int) = NU at *
      generalize -(D : Int) = ND at *
      generalize -(n : Int) = N at *
      simp [x39, r1, w1, w2, hs, hg, q1, w3, hi, hl]
theorem rint_V {n : Nat} (hn : n < 1000) (m : Mem) : LV CV (.call 31) [.int .i64 n] m [] = some ⟨.ret, [S (Lib.decDigits n)], m, []⟩ := by
  have h := fun m => rdigits_V 2 n (by simpa using hn) (by omega) m
  have w : IntKind.wrap .i64 (0 - (n : Int)) = -(n : Int) := by rw [wrap_i64 (by omega) (by omega)]; omega
  have w2 : IntKind.wrap .i64 (-(n : Int)) = -(n : Int) := wrap_i64 (by omega) (by omega)
  have hg : ¬ (n : Int) < 0 := by omega
  refine R31 ?_
  simp [x31, hg, aUn_neg, w, w2, h]
end Go.Proofs.YtbccdlbibcbcfaaDoor.D
