/-
  What is shown: the program's and the document's texts.
  Show and ShowAmount, the program's and the document's; the law ClockShows.
  Show and ShowAmount, the program's and the document's; the law ClockShows.
  What is shown is read as it was; no program in sight.
  ShowAmount; the laws ClockShows, ClockAgain and ClockBack.
-/
import Derived.Test.YtbccdlbibcbcfaaDoorCB
namespace Go.Proofs.YtbccdlbibcbcfaaDoor.D
open Go.RowKit
set_option linter.unusedVariables false
set_option linter.unusedSimpArgs false
theorem dd_lt {n : Nat} (h : n < 10) : Lib.decDigits n = [dg n] := by rw [Lib.decDigits, dif_pos h]; rfl
theorem dd_ge {n : Nat} (h : 10 ≤ n) : Lib.decDigits n = Lib.decDigits (n / 10) ++ [dg (n % 10)] := by rw [Lib.decDigits, dif_neg (by omega)]; rfl
theorem dd_len3 {n : Nat} (h : n < 1000) : (Lib.decDigits n).length ≤ 3 := by
  by_cases h1 : n < 10
  · rw [dd_lt h1]; simp
  · rw [dd_ge (by omega)]
    by_cases h2 : n / 10 < 10
    · rw [dd_lt h2]; simp
    · rw [dd_ge (by omega), dd_lt (by omega)]; simp
theorem cb_dg {d : Nat} (h : d < 10) : (Value.int .u8 ((48 : Int) + (d : Int))) = .int .u8 ((dg d).toNat : Int) := by
  have : (dg d).toNat = 48 + d := by simp [dg, UInt8.toNat_ofNat']; omega
  rw [this]
  congr 1
theorem str2 {a b : Nat} (ha : a < 10) (hb : b < 10) (m : Mem) : vStr (fz 1 true [[.int .u8 ((48 : Int) + (a : Int))], [.int .u8 ((48 : Int) + (b : Int))]]) m = some (S [dg a, dg b]) := by
  rw [cb_dg ha, cb_dg hb]
  have := vStr_sq true true [dg a, dg b] m
  simpa [sq, eb] using this
theorem str1 {a : Nat} (ha : a < 10) (m : Mem) : vStr (fz 1 true [[.int .u8 ((48 : Int) + (a : Int))]]) m = some (S [dg a]) := by
  rw [cb_dg ha]
  have := vStr_sq true true [dg a] m
  simpa [sq, eb] using this
theorem lit2 (a b : Int) (m : Mem) : vLit 1 2 [(.int .u8 (0))] [(0, .int .u8 a), (1, .int .u8 b)] m = some (fz 1 true [[.int .u8 a], [.int .u8 b]], m) := rfl
theorem pair_V {n : Nat} (hn : n < 60) (m : Mem) : LV CV (.call 30) [.int .i64 n] m [] = some ⟨.ret, [S (pairP n)], m, []⟩ := by
  refine R30 ?_
  have q1 : (n : Int).tdiv 10 = ((n / 10 : Nat) : Int) := by rw [Int.tdiv_eq_ediv_of_nonneg (by omega)]; rfl
  have r1 : (n : Int).tmod 10 = ((n % 10 : Nat) : Int) := by rw [Int.tmod_eq_emod_of_nonneg (by omega)]; rfl
  have w1 : IntKind.wrap .i64 ((n / 10 : Nat) : Int) = ((n / 10 : Nat) : Int) := wrap_i64 (by omega) (by omega)
  have w2 : IntKind.wrap .u8 ((n / 10 : Nat) : Int) = ((n / 10 : Nat) : Int) := wrap_u8 (by omega) (by omega)
  have w3 : IntKind.wrap .u8 (48 + ((n / 10 : Nat) : Int)) = 48 + ((n / 10 : Nat) : Int) := wrap_u8 (by omega) (by omega)
  have w4 : IntKind.wrap .u8 ((n % 10 : Nat) : Int) = ((n % 10 : Nat) : Int) := wrap_u8 (by omega) (by omega)
  have w5 : IntKind.wrap .u8 (48 + ((n % 10 : Nat) : Int)) = 48 + ((n % 10 : Nat) : Int) := wrap_u8 (by omega) (by omega)
  have hs := fun m => str2 (a := n / 10) (b := n % 10) (by omega) (by omega) m
  unfold pairP
  generalize n / 10 = A at *
  generalize n % 10 = B at *
  simp [x30, q1, r1, w1, w2, w3, w4, w5, lit2, hs]
theorem two_V {n : Nat} (hn : n < 60) (m : Mem) : LV CV (.call 32) [.int .i64 n] m [] = some ⟨.ret, [S (pairP n)], m, []⟩ := by
  refine R32 ?_
  have q1 : (n : Int).tdiv 10 = ((n / 10 : Nat) : Int) := by rw [Int.tdiv_eq_ediv_of_nonneg (by omega)]; rfl
  have r1 : (n : Int).tmod 10 = ((n % 10 : Nat) : Int) := by rw [Int.tmod_eq_emod_of_nonneg (by omega)]; rfl
  have w1 : IntKind.wrap .i64 ((n / 10 : Nat) : Int) = ((n / 10 : Nat) : Int) := wrap_i64 (by omega) (by omega)
  have w2 : IntKind.wrap .i64 (48 + ((n / 10 : Nat) : Int)) = 48 + ((n / 10 : Nat) : Int) := wrap_i64 (by omega) (by omega)
  have w3 : IntKind.wrap .u8 (48 + ((n / 10 : Nat) : Int)) = 48 + ((n / 10 : Nat) : Int) := wrap_u8 (by omega) (by omega)
  have w4 : IntKind.wrap .i64 (48 + ((n % 10 : Nat) : Int)) = 48 + ((n % 10 : Nat) : Int) := wrap_i64 (by omega) (by omega)
  have w5 : IntKind.wrap .u8 (48 + ((n % 10 : Nat) : Int)) = 48 + ((n % 10 : Nat) : Int) := wrap_u8 (by omega) (by omega)
  have hs := fun m => str2 (a := n / 10) (b := n % 10) (by omega) (by omega) m
  unfold pairP
  generalize n / 10 = A at *
  generalize n % 10 = B at *
  simp [x32, q1, r1, w1, w2, w3, w4, w5, lit2, hs]
theorem rdigits_V : ∀ (k n : Nat), n < 10 ^ (k + 1) → n < 1000000 → ∀ m, LV CV (.call 39) [.int .i64 (-(n : Int))] m [] = some ⟨.ret, [S (Lib.decDigits n)], m, []⟩ := by
  intro k
  induction k with
  | zero =>
    intro n hn hn2 m
    have h10 : n < 10 := by simpa using hn
    refine R39 ?_
    have r1 : (-(n : Int)).tmod 10 = -(n : Int) := by rw [Int.neg_tmod, Int.tmod_eq_of_lt (by omega) (by omega)]
    have w1 : IntKind.wrap .i64 (48 - -(n : Int)) = 48 + (n : Int) := by rw [wrap_i64 (by omega) (by omega)]; omega
    have w2 : IntKind.wrap .u8 (48 + (n : Int)) = 48 + (n : Int) := wrap_u8 (by omega) (by omega)
    have hs := fun m => str1 (a := n) h10 m
    have hg : (-10 : Int) < -(n : Int) := by omega
    rw [dd_lt h10]
    generalize dg n = cc at *
    generalize hN : -(n : Int) = N at *
    simp [x39, r1, w1, w2, hs, hg]
  | succ k ih =>
    intro n hn hn2 m
    refine R39 ?_
    have r1 : (-(n : Int)).tmod 10 = -((n % 10 : Nat) : Int) := by
      rw [Int.neg_tmod, Int.tmod_eq_emod_of_nonneg (by omega)]; rfl
    have w1 : IntKind.wrap .i64 (48 - -((n % 10 : Nat) : Int)) = 48 + ((n % 10 : Nat) : Int) := by rw [wrap_i64 (by omega) (by omega)]; omega
    have w2 : IntKind.wrap .u8 (48 + ((n % 10 : Nat) : Int)) = 48 + ((n % 10 : Nat) : Int) := wrap_u8 (by omega) (by omega)
    have hs := fun m => str1 (a := n % 10) (by omega) m
    by_cases h10 : n < 10
    · have hg : (-10 : Int) < -(n : Int) := by omega
      have e : n % 10 = n := Nat.mod_eq_of_lt h10
      rw [e] at r1 w1 w2 hs
      rw [dd_lt h10]
      generalize dg n = cc at *
      generalize hN : -(n : Int) = N at *
      simp [x39, r1, w1, w2, hs, hg]
    · have hg : ¬ (-10 : Int) < -(n : Int) := by omega
      have q1 : (-(n : Int)).tdiv 10 = -((n / 10 : Nat) : Int) := by
        rw [Int.neg_tdiv, Int.tdiv_eq_ediv_of_nonneg (by omega)]; rfl
      have w3 : IntKind.wrap .i64 (-((n / 10 : Nat) : Int)) = -((n / 10 : Nat) : Int) := wrap_i64 (by omega) (by omega)
      have hi := fun m => ih (n / 10) (by rw [Nat.pow_succ] at hn; omega) (by omega) m
      have hl : (Lib.decDigits (n / 10)).length + 1 ≤ 4611686018427387904 := by
        have h1 : n / 10 < 1000000 := by omega
        by_cases h2 : n / 10 < 1000
        · have := dd_len3 h2; omega
        · rw [dd_ge (by omega), List.length_append]
          by_cases h3 : n / 10 / 10 < 1000
          · have := dd_len3 h3; simp; omega
          · rw [dd_ge (by omega), List.length_append]
            have := dd_len3 (n := n / 10 / 10 / 10) (by omega)
            simp; omega
      rw [dd_ge (by omega)]
      generalize n % 10 = D at *
      generalize n / 10 = U at *
      generalize Lib.decDigits U = DU at *
      generalize dg D = cc at *
      generalize -(U : Int) = NU at *
      generalize -(D : Int) = ND at *
      generalize -(n : Int) = N at *
      simp [x39, r1, w1, w2, hs, hg, q1, w3, hi, hl]
theorem rint_V {n : Nat} (hn : n < 1000) (m : Mem) : LV CV (.call 31) [.int .i64 n] m [] = some ⟨.ret, [S (Lib.decDigits n)], m, []⟩ := by
  have h := fun m => rdigits_V 2 n (by simpa using hn) (by omega) m
  have w : IntKind.wrap .i64 (0 - (n : Int)) = -(n : Int) := by rw [wrap_i64 (by omega) (by omega)]; omega
  have w2 : IntKind.wrap .i64 (-(n : Int)) = -(n : Int) := wrap_i64 (by omega) (by omega)
  have hg : ¬ (n : Int) < 0 := by omega
  refine R31 ?_
  simp [x31, hg, aUn_neg, w, w2, h]
end Go.Proofs.YtbccdlbibcbcfaaDoor.D

namespace Go.Proofs.YtbccdlbibcbcfaaDoor.D
open Go.RowKit
set_option linter.unusedVariables false
set_option linter.unusedSimpArgs false
theorem itoaN_V {n : Nat} (h : n < 1000) (m : Mem) : LV CV (.call 29) [.int .i64 n] m [] = some ⟨.ret, [S (Lib.decDigits n)], m, []⟩ := by
  have := itoa_V (n := (n : Int)) (by omega) (by omega) m
  have e : Lib.itoa (n : Int) = Lib.decDigits n := by unfold Lib.itoa; rw [if_neg (by omega)]; simp
  rw [e] at this
  exact this
/-- The numbers of a text, without their sign. -/
structure Nm (a : Nat) : Prop where
  q1 : (a : Int).tdiv 3600 = ((a / 3600 : Nat) : Int)
  q2 : (a : Int).tdiv 60 = ((a / 60 : Nat) : Int)
  r1 : ((a / 60 : Nat) : Int).tmod 60 = ((a / 60 % 60 : Nat) : Int)
  r2 : (a : Int).tmod 60 = ((a % 60 : Nat) : Int)
theorem Nm.of (a : Nat) : Nm a :=
  ⟨by rw [Int.tdiv_eq_ediv_of_nonneg (by omega)]; rfl, by rw [Int.tdiv_eq_ediv_of_nonneg (by omega)]; rfl, by rw [Int.tmod_eq_emod_of_nonneg (by omega)]; rfl, by rw [Int.tmod_eq_emod_of_nonneg (by omega)]; rfl⟩
theorem text_V {n : Int} (h1 : -604800 < n) (h2 : n < 604800) (m : Mem) : LV CV (.call 21) [.int .i64 n] m [] = some ⟨.ret, [S (textP n)], m, []⟩ := by
  refine R21 ?_
  obtain ⟨a, ha, hs⟩ : ∃ a : Nat, a < 604800 ∧ (n < 0 ∧ n = -(a : Int) ∧ textP n = [45] ++ natP a ∨ ¬ n < 0 ∧ n = a ∧ textP n = natP a) := by
    refine ⟨n.natAbs, by omega, ?_⟩
    by_cases h : n < 0
    · exact .inl ⟨h, by omega, by unfold textP; rw [if_pos h]⟩
    · exact .inr ⟨h, by omega, by unfold textP; rw [if_neg h]; rfl⟩
  obtain ⟨q1, q2, r1, r2⟩ := Nm.of a
  have w1 : IntKind.wrap .i64 ((a / 3600 : Nat) : Int) = ((a / 3600 : Nat) : Int) := wrap_i64 (by omega) (by omega)
  have w2 : IntKind.wrap .i64 ((a / 60 : Nat) : Int) = ((a / 60 : Nat) : Int) := wrap_i64 (by omega) (by omega)
  have w3 : IntKind.wrap .i64 (0 - -(a : Int)) = (a : Int) := by rw [wrap_i64 (by omega) (by omega)]; omega
  have w4 : IntKind.wrap .i64 (a : Int) = (a : Int) := wrap_i64 (by omega) (by omega)
  have w5 : IntKind.wrap .i64 (- -(a : Int)) = (a : Int) := by rw [wrap_i64 (by omega) (by omega)]; omega
  have hh := fun m => itoaN_V (n := a / 3600) (by omega) m
  have hm := fun m => pair_V (n := a / 60 % 60) (by omega) m
  have hx := fun m => pair_V (n := a % 60) (by omega) m
  have hl := dd_len3 (n := a / 3600) (by omega)
  have hN : natP a = Lib.decDigits (a / 3600) ++ pairP (a / 60 % 60) ++ (if 0 < a % 60 then pairP (a % 60) else []) := rfl
  have l1 : (pairP (a / 60 % 60)).length = 3 := rfl
  have l2 : (pairP (a % 60)).length = 3 := rfl
  generalize Lib.decDigits (a / 3600) = H at *
  generalize pairP (a / 60 % 60) = P at *
  generalize pairP (a % 60) = X at *
  generalize a / 3600 = A1 at *
  generalize a / 60 % 60 = A3 at *
  generalize a / 60 = A2 at *
  have c0 : H.length ≤ 4611686018427387904 := by omega
  have c1 : H.length ≤ 4611686018427387903 := by omega
  have c2 : H.length ≤ 4611686018427387902 := by omega
  have c3 : H.length ≤ 4611686018427387901 := by omega
  have c4 : H.length ≤ 4611686018427387900 := by omega
  have c5 : H.length ≤ 4611686018427387899 := by omega
  have c6 : H.length ≤ 4611686018427387898 := by omega
  have c7 : H.length ≤ 4611686018427387897 := by omega
  have c8 : H.length ≤ 4611686018427387896 := by omega
  have hK : ¬ (3600 : Int) = 0 := by decide
  have d1 : 1 + (H.length + 3) ≤ 4611686018427387904 := by omega
  have d2 : 1 + H.length ≤ 4611686018427387904 := by omega
  have d3 : 1 + H.length + 3 ≤ 4611686018427387904 := by omega
  have d4 : 1 + (H.length + 3) + 3 ≤ 4611686018427387904 := by omega
  have d5 : 1 + H.length ≤ 4611686018427387901 := by omega
  have d6 : 1 + (H.length + 3) ≤ 4611686018427387901 := by omega
  have b1 : H.length + P.length ≤ 4611686018427387904 := by omega
  have b2 : H.length + P.length + 1 ≤ 4611686018427387904 := by omega
  have b3 : H.length + P.length + X.length ≤ 4611686018427387904 := by omega
  have b4 : H.length + P.length + X.length + 1 ≤ 4611686018427387904 := by omega
  have b5 : H.length + (P.length + X.length) ≤ 4611686018427387904 := by omega
  by_cases hz : 0 < a % 60
  · have hz' : (0 : Int) < ((a % 60 : Nat) : Int) := by omega
    rw [if_pos hz] at hN
    generalize a % 60 = A4 at *
    rcases hs with ⟨hn, rfl, ht⟩ | ⟨hn, rfl, ht⟩
    · rw [ht, hN]
      generalize hAN : -(a : Int) = AN at *
      unfold x21
      generalize (3600 : Int) = K at *
      simp [hn, aUn_neg, w3, w4, w5, q1, q2, r1, r2, w1, w2, hh, hm, hx, hz', hz, l1, l2, cutN, hK, d1, d2, d3, d4, d5, d6, c0, c1, c2, c3, c4, c5, c6, c7, c8]
    · rw [ht, hN]
      unfold x21
      generalize (3600 : Int) = K at *
      simp [hn, aUn_neg, w3, w4, w5, q1, q2, r1, r2, w1, w2, hh, hm, hx, hz', hz, l1, l2, cutN, hK, d1, d2, d3, d4, d5, d6, c0, c1, c2, c3, c4, c5, c6, c7, c8]
  · have hz' : ¬ (0 : Int) < ((a % 60 : Nat) : Int) := by omega
    rw [if_neg hz] at hN
    generalize a % 60 = A4 at *
    rcases hs with ⟨hn, rfl, ht⟩ | ⟨hn, rfl, ht⟩
    · rw [ht, hN]
      generalize hAN : -(a : Int) = AN at *
      unfold x21
      generalize (3600 : Int) = K at *
      simp [hn, aUn_neg, w3, w4, w5, q1, q2, r1, r2, w1, w2, hh, hm, hx, hz', hz, l1, l2, cutN, hK, d1, d2, d3, d4, d5, d6, c0, c1, c2, c3, c4, c5, c6, c7, c8]
    · rw [ht, hN]
      unfold x21
      generalize (3600 : Int) = K at *
      simp [hn, aUn_neg, w3, w4, w5, q1, q2, r1, r2, w1, w2, hh, hm, hx, hz', hz, l1, l2, cutN, hK, d1, d2, d3, d4, d5, d6, c0, c1, c2, c3, c4, c5, c6, c7, c8]
theorem shown_V {n : Int} (h1 : -604800 < n) (h2 : n < 604800) (m : Mem) : LV CV (.call 22) [.int .i64 n] m [] = some ⟨.ret, [S (textP n)], m, []⟩ := by
  refine R22 ?_
  obtain ⟨a, ha, hs⟩ : ∃ a : Nat, a < 604800 ∧ (n < 0 ∧ n = -(a : Int) ∧ textP n = [45] ++ natP a ∨ ¬ n < 0 ∧ n = a ∧ textP n = natP a) := by
    refine ⟨n.natAbs, by omega, ?_⟩
    by_cases h : n < 0
    · exact .inl ⟨h, by omega, by unfold textP; rw [if_pos h]⟩
    · exact .inr ⟨h, by omega, by unfold textP; rw [if_neg h]; rfl⟩
  obtain ⟨q1, q2, r1, r2⟩ := Nm.of a
  have w1 : IntKind.wrap .i64 ((a / 3600 : Nat) : Int) = ((a / 3600 : Nat) : Int) := wrap_i64 (by omega) (by omega)
  have w2 : IntKind.wrap .i64 ((a / 60 : Nat) : Int) = ((a / 60 : Nat) : Int) := wrap_i64 (by omega) (by omega)
  have w3 : IntKind.wrap .i64 (0 - -(a : Int)) = (a : Int) := by rw [wrap_i64 (by omega) (by omega)]; omega
  have w4 : IntKind.wrap .i64 (a : Int) = (a : Int) := wrap_i64 (by omega) (by omega)
  have w5 : IntKind.wrap .i64 (- -(a : Int)) = (a : Int) := by rw [wrap_i64 (by omega) (by omega)]; omega
  have hh := fun m => rint_V (n := a / 3600) (by omega) m
  have hm := fun m => two_V (n := a / 60 % 60) (by omega) m
  have hx := fun m => two_V (n := a % 60) (by omega) m
  have hl := dd_len3 (n := a / 3600) (by omega)
  have hN : natP a = Lib.decDigits (a / 3600) ++ pairP (a / 60 % 60) ++ (if 0 < a % 60 then pairP (a % 60) else []) := rfl
  have l1 : (pairP (a / 60 % 60)).length = 3 := rfl
  have l2 : (pairP (a % 60)).length = 3 := rfl
  generalize Lib.decDigits (a / 3600) = H at *
  generalize pairP (a / 60 % 60) = P at *
  generalize pairP (a % 60) = X at *
  generalize a / 3600 = A1 at *
  generalize a / 60 % 60 = A3 at *
  generalize a / 60 = A2 at *
  have c0 : H.length ≤ 4611686018427387904 := by omega
  have c1 : H.length ≤ 4611686018427387903 := by omega
  have c2 : H.length ≤ 4611686018427387902 := by omega
  have c3 : H.length ≤ 4611686018427387901 := by omega
  have c4 : H.length ≤ 4611686018427387900 := by omega
  have c5 : H.length ≤ 4611686018427387899 := by omega
  have c6 : H.length ≤ 4611686018427387898 := by omega
  have c7 : H.length ≤ 4611686018427387897 := by omega
  have c8 : H.length ≤ 4611686018427387896 := by omega
  have hK : ¬ (3600 : Int) = 0 := by decide
  have d1 : 1 + (H.length + 3) ≤ 4611686018427387904 := by omega
  have d2 : 1 + H.length ≤ 4611686018427387904 := by omega
  have d3 : 1 + H.length + 3 ≤ 4611686018427387904 := by omega
  have d4 : 1 + (H.length + 3) + 3 ≤ 4611686018427387904 := by omega
  have d5 : 1 + H.length ≤ 4611686018427387901 := by omega
  have d6 : 1 + (H.length + 3) ≤ 4611686018427387901 := by omega
  have b0 : H.length ≤ 4611686018427387904 := by omega
  have b6 : H.length + 1 ≤ 4611686018427387904 := by omega
  by_cases hz : 0 < a % 60
  · have hz' : ¬ ((a % 60 : Nat) : Int) = 0 := by omega
    have hz2 : ¬ a % 60 = 0 := by omega
    rw [if_pos hz] at hN
    generalize a % 60 = A4 at *
    rcases hs with ⟨hn, rfl, ht⟩ | ⟨hn, rfl, ht⟩
    · rw [ht, hN]
      generalize hAN : -(a : Int) = AN at *
      unfold x22
      generalize (3600 : Int) = K at *
      simp [hn, aUn_neg, w3, w4, w5, q1, q2, r1, r2, w1, w2, hh, hm, hx, hz', hz, hz2, l1, l2, cutN, hK, d1, d2, d3, d4, d5, d6, c0, c1, c2, c3, c4, c5, c6, c7, c8]
    · rw [ht, hN]
      unfold x22
      generalize (3600 : Int) = K at *
      simp [hn, aUn_neg, w3, w4, w5, q1, q2, r1, r2, w1, w2, hh, hm, hx, hz', hz, hz2, l1, l2, cutN, hK, d1, d2, d3, d4, d5, d6, c0, c1, c2, c3, c4, c5, c6, c7, c8]
  · have hz0 : a % 60 = 0 := by omega
    rw [if_neg hz] at hN
    rw [hz0] at r2
    rcases hs with ⟨hn, rfl, ht⟩ | ⟨hn, rfl, ht⟩
    · rw [ht, hN]
      generalize hAN : -(a : Int) = AN at *
      unfold x22
      generalize (3600 : Int) = K at *
      simp [hn, aUn_neg, w3, w4, w5, q1, q2, r1, r2, w1, w2, hh, hm, hx, l1, l2, cutN, hK, d1, d2, d3, d4, d5, d6, c0, c1, c2, c3, c4, c5, c6, c7, c8]
    · rw [ht, hN]
      unfold x22
      generalize (3600 : Int) = K at *
      simp [hn, aUn_neg, w3, w4, w5, q1, q2, r1, r2, w1, w2, hh, hm, hx, l1, l2, cutN, hK, d1, d2, d3, d4, d5, d6, c0, c1, c2, c3, c4, c5, c6, c7, c8]
end Go.Proofs.YtbccdlbibcbcfaaDoor.D

namespace Go.Proofs.YtbccdlbibcbcfaaDoor.D
open Go.RowKit
set_option linter.unusedVariables false
set_option linter.unusedSimpArgs false
def showR (n k : Int) : Value := match showP n k with | some t => .tuple #[S t, .int .i64 0] | none => .tuple #[S [], .int .i64 1]
def showAmountR (n : Int) : Value := match showAmountP n with | some t => .tuple #[S t, .int .i64 0] | none => .tuple #[S [], .int .i64 1]
theorem show_out {n k : Int} (h : n ≤ -604800 ∨ 604800 ≤ n ∨ k < 0 ∨ 2 < k) : showR n k = .tuple #[S [], .int .i64 1] := by
  unfold showR showP; rw [if_pos h]
theorem show_in {n k : Int} (h : ¬ (n ≤ -604800 ∨ 604800 ≤ n ∨ k < 0 ∨ 2 < k)) : showR n k = .tuple #[S (textP n ++ kindP k), .int .i64 0] := by
  unfold showR showP; rw [if_neg h]
theorem showA_out {n : Int} (h : n < -86400 ∨ 86400 < n) : showAmountR n = .tuple #[S [], .int .i64 1] := by
  unfold showAmountR showAmountP; rw [if_pos h]
theorem showA_in {n : Int} (h : ¬ (n < -86400 ∨ 86400 < n)) : showAmountR n = .tuple #[S (textP n), .int .i64 0] := by
  unfold showAmountR showAmountP; rw [if_neg h]
/-- With the bounds as what they may be. -/
def cshB (O : Orc) (K L : Int) (a0 : Value) (m : Mem) : Option Out :=
if known a0 = true then letK ((m).push ⟨0, (Value.cells a0).toList⟩) fun m0 =>
(vFieldAddr 0 (.pointer (some ⟨(m).next, 0, none⟩))).bind fun v1 =>
(vLd 1 false v1 m0).bind fun v2 =>
(aBin .leq v2 (.int .i64 L)).bind fun v3 =>
br v3 (
some ⟨.ret, [.tuple [(S []), (.int .i64 (1))].toArray], m0, []⟩) (
(vFieldAddr 0 (.pointer (some ⟨(m).next, 0, none⟩))).bind fun v4 =>
(vLd 1 false v4 m0).bind fun v5 =>
(aBin .geq v5 (.int .i64 K)).bind fun v6 =>
br v6 (
some ⟨.ret, [.tuple [(S []), (.int .i64 (1))].toArray], m0, []⟩) (
(vFieldAddr 1 (.pointer (some ⟨(m).next, 0, none⟩))).bind fun v7 =>
(vLd 1 false v7 m0).bind fun v8 =>
(aBin .lss v8 (.int .i64 (0))).bind fun v9 =>
br v9 (
some ⟨.ret, [.tuple [(S []), (.int .i64 (1))].toArray], m0, []⟩) (
(vFieldAddr 1 (.pointer (some ⟨(m).next, 0, none⟩))).bind fun v10 =>
(vLd 1 false v10 m0).bind fun v11 =>
(aBin .gtr v11 (.int .i64 (2))).bind fun v12 =>
br v12 (
some ⟨.ret, [.tuple [(S []), (.int .i64 (1))].toArray], m0, []⟩) (
(vFieldAddr 0 (.pointer (some ⟨(m).next, 0, none⟩))).bind fun v13 =>
(vLd 1 false v13 m0).bind fun v14 =>
retK (O (.call 21) [v14] ((m0).floor (m0).next) []) (fun v15 m16 =>
(aBuild [(0, 1), (1, 1), (2, 1)] [(S []), (S []), (S [])] [(0, (S [])), (1, (S [115])), (2, (S [117]))]).bind fun v18 =>
(vFieldAddr 1 (.pointer (some ⟨(m).next, 0, none⟩))).bind fun v19 =>
(vLd 1 false v19 (m16.floor (m0).lo)).bind fun v20 =>
(aElem false 3 1 v18 v20).bind fun v21 =>
(aBin .add v15 v21).bind fun v22 =>
some ⟨.ret, [.tuple [v22, (.int .i64 (0))].toArray], (m16.floor (m0).lo), []⟩) (fun p17 m23 => none))))) else none
def rshB (O : Orc) (K L : Int) (a0 : Value) (m : Mem) : Option Out :=
if known a0 = true then letK ((m).push ⟨0, (Value.cells a0).toList⟩) fun m0 =>
(vFieldAddr 0 (.pointer (some ⟨(m).next, 0, none⟩))).bind fun v1 =>
(vLd 1 false v1 m0).bind fun v2 =>
(aBin .lss v2 (.int .i64 L)).bind fun v3 =>
br v3 (
some ⟨.ret, [.tuple [(S []), (.int .i64 (1))].toArray], m0, []⟩) (
(vFieldAddr 0 (.pointer (some ⟨(m).next, 0, none⟩))).bind fun v4 =>
(vLd 1 false v4 m0).bind fun v5 =>
(aBin .gtr v5 (.int .i64 K)).bind fun v6 =>
br v6 (
some ⟨.ret, [.tuple [(S []), (.int .i64 (1))].toArray], m0, []⟩) (
(vFieldAddr 1 (.pointer (some ⟨(m).next, 0, none⟩))).bind fun v7 =>
(vLd 1 false v7 m0).bind fun v8 =>
(aBin .lss v8 (.int .i64 (0))).bind fun v9 =>
br v9 (
some ⟨.ret, [.tuple [(S []), (.int .i64 (1))].toArray], m0, []⟩) (
(vFieldAddr 1 (.pointer (some ⟨(m).next, 0, none⟩))).bind fun v10 =>
(vLd 1 false v10 m0).bind fun v11 =>
(aBin .gtr v11 (.int .i64 (2))).bind fun v12 =>
br v12 (
some ⟨.ret, [.tuple [(S []), (.int .i64 (1))].toArray], m0, []⟩) (
(vFieldAddr 0 (.pointer (some ⟨(m).next, 0, none⟩))).bind fun v13 =>
(vLd 1 false v13 m0).bind fun v14 =>
retK (O (.call 22) [v14] ((m0).floor (m0).next) []) (fun v15 m16 =>
(vLit 1 3 [(S [])] [(0, (S [])), (1, (S [115])), (2, (S [117]))] (m16.floor (m0).lo)).bind fun r18 =>
(vFieldAddr 1 (.pointer (some ⟨(m).next, 0, none⟩))).bind fun v19 =>
(vLd 1 false v19 r18.2).bind fun v20 =>
(vIdx 1 r18.1 v20).bind fun v21 =>
(vLd 1 false v21 r18.2).bind fun v22 =>
(aBin .add v15 v22).bind fun v23 =>
some ⟨.ret, [.tuple [v23, (.int .i64 (0))].toArray], r18.2, []⟩) (fun p17 m24 => none))))) else none
abbrev at2 (n k : Int) : Value := .agg #[.int .i64 n, .int .i64 k]
@[simp] theorem known_at2 (n k : Int) : known (at2 n k) = true := rfl
@[simp] theorem cells_at2 (n k : Int) : (at2 n k).cells = #[.int .i64 n, .int .i64 k] := rfl
def arr3 : Value := .agg #[S [], S [115], S [117]]
theorem arr3_b : aBuild [(0, 1), (1, 1), (2, 1)] [(S []), (S []), (S [])] [(0, (S [])), (1, (S [115])), (2, (S [117]))] = some arr3 := rfl
theorem kind_cases {k : Int} (h0 : ¬ k < 0) (h2 : ¬ 2 < k) : k = 0 ∨ k = 1 ∨ k = 2 := by omega
theorem arr3_at {k : Int} (h0 : ¬ k < 0) (h2 : ¬ 2 < k) : aElem false 3 1 arr3 (.int .i64 k) = some (S (kindP k)) := by
  rcases kind_cases h0 h2 with rfl | rfl | rfl <;> rfl
theorem lit3 (m : Mem) : vLit 1 3 [(S [])] [(0, (S [])), (1, (S [115])), (2, (S [117]))] m = some (fz 1 true [[S []], [S [115]], [S [117]]], m) := rfl
theorem lit3_at {k : Int} (h0 : ¬ k < 0) (h2 : ¬ 2 < k) (m : Mem) : ((vIdx 1 (fz 1 true [[S []], [S [115]], [S [117]]]) (.int .i64 k)).bind fun v => vLd 1 false v m) = some (S (kindP k)) := by
  rcases kind_cases h0 h2 with rfl | rfl | rfl <;> rfl
theorem kindP_len (k : Int) : (kindP k).length ≤ 1 := by
  unfold kindP
  split
  · simp
  · split <;> simp
theorem cshB_out {K L n k : Int} (m m' : Mem) (ho : n ≤ L ∨ K ≤ n ∨ k < 0 ∨ 2 < k) : (cshB (LV CV) K L (at2 n k) m).bind (close m') = some ⟨.ret, [.tuple #[S [], .int .i64 1]], m', []⟩ := by
  by_cases h1 : n ≤ L
  · simp [cshB, h1]
  · by_cases h2 : K ≤ n
    · simp [cshB, h1, h2]
    · by_cases h3 : k < 0
      · simp [cshB, h1, h2, h3]
      · have h4 : 2 < k := by rcases ho with h | h | h | h; exact absurd h h1; exact absurd h h2; exact absurd h h3; exact h
        simp [cshB, h1, h2, h3, h4]
theorem cshB_in {K L n k : Int} {T : List UInt8} (hT : T.length ≤ 1000) (m m' : Mem) (h : ∀ m, LV CV (.call 21) [.int .i64 n] m [] = some ⟨.ret, [S T], m, []⟩) (ho : ¬ (n ≤ L ∨ K ≤ n ∨ k < 0 ∨ 2 < k)) : (cshB (LV CV) K L (at2 n k) m).bind (close m') = some ⟨.ret, [.tuple #[S (T ++ kindP k), .int .i64 0]], m', []⟩ := by
  have h1 : ¬ n ≤ L := fun h => ho (.inl h)
  have h2 : ¬ K ≤ n := fun h => ho (.inr (.inl h))
  have h3 : ¬ k < 0 := fun h => ho (.inr (.inr (.inl h)))
  have h4 : ¬ 2 < k := fun h => ho (.inr (.inr (.inr h)))
  have ha := arr3_at h3 h4
  have hl := kindP_len k
  have hb : T.length + (kindP k).length ≤ 4611686018427387904 := by omega
  generalize kindP k = X at *
  simp [cshB, h1, h2, h3, h4, h, arr3_b, ha, hb]
theorem rshB_out {K L n k : Int} (m m' : Mem) (ho : n < L ∨ K < n ∨ k < 0 ∨ 2 < k) : (rshB (LV CV) K L (at2 n k) m).bind (close m') = some ⟨.ret, [.tuple #[S [], .int .i64 1]], m', []⟩ := by
  by_cases h1 : n < L
  · simp [rshB, h1]
  · by_cases h2 : K < n
    · simp [rshB, h1, h2]
    · by_cases h3 : k < 0
      · simp [rshB, h1, h2, h3]
      · have h4 : 2 < k := by rcases ho with h | h | h | h; exact absurd h h1; exact absurd h h2; exact absurd h h3; exact h
        simp [rshB, h1, h2, h3, h4]
theorem rshB_in {K L n k : Int} {T : List UInt8} (hT : T.length ≤ 1000) (m m' : Mem) (h : ∀ m, LV CV (.call 22) [.int .i64 n] m [] = some ⟨.ret, [S T], m, []⟩) (ho : ¬ (n < L ∨ K < n ∨ k < 0 ∨ 2 < k)) : (rshB (LV CV) K L (at2 n k) m).bind (close m') = some ⟨.ret, [.tuple #[S (T ++ kindP k), .int .i64 0]], m', []⟩ := by
  have h1 : ¬ n < L := fun h => ho (.inl h)
  have h2 : ¬ K < n := fun h => ho (.inr (.inl h))
  have h3 : ¬ k < 0 := fun h => ho (.inr (.inr (.inl h)))
  have h4 : ¬ 2 < k := fun h => ho (.inr (.inr (.inr h)))
  have hl := kindP_len k
  have hb : T.length + (kindP k).length ≤ 4611686018427387904 := by omega
  have hb0 : T.length ≤ 4611686018427387904 := by omega
  have hb1 : T.length ≤ 4611686018427387903 := by omega
  have hb2 : T.length + 1 ≤ 4611686018427387904 := by omega
  rcases kind_cases h3 h4 with rfl | rfl | rfl
  · have e : kindP 0 = [] := rfl
    rw [e] at hb ⊢
    simp only [List.length_nil] at hb
    simp [rshB, h1, h2, h, lit3, hb0, hb1, hb2]
  · have e : kindP 1 = [115] := rfl
    rw [e] at hb ⊢
    simp only [List.length_cons, List.length_nil] at hb
    simp [rshB, h1, h2, h, lit3, hb0, hb1, hb2]
  · have e : kindP 2 = [117] := rfl
    rw [e] at hb ⊢
    simp only [List.length_cons, List.length_nil] at hb
    simp [rshB, h1, h2, h, lit3, hb0, hb1, hb2]
theorem natP_len {a : Nat} (h : a < 604800) : (natP a).length ≤ 9 := by
  have := dd_len3 (n := a / 3600) (by omega)
  unfold natP hourP
  split <;> simp [pairP] <;> omega
theorem textP_len {n : Int} (h1 : -604800 < n) (h2 : n < 604800) : (textP n).length ≤ 10 := by
  have := natP_len (a := n.natAbs) (by omega)
  unfold textP
  split <;> simp <;> omega
theorem show_V (n k : Int) (m : Mem) : LV CV (.call 13) [at2 n k] m [] = some ⟨.ret, [showR n k], m, []⟩ := by
  by_cases ho : n ≤ -604800 ∨ 604800 ≤ n ∨ k < 0 ∨ 2 < k
  · rw [show_out ho]
    exact R13 (cshB_out _ m ho)
  · rw [show_in ho]
    have a1 : -604800 < n := Int.not_le.1 fun h => ho (.inl h)
    have a2 : n < 604800 := Int.not_le.1 fun h => ho (.inr (.inl h))
    have := textP_len a1 a2
    exact R13 (cshB_in (by omega) _ m (fun m => text_V a1 a2 m) ho)
theorem rshow_V (n k : Int) (m : Mem) : LV CV (.call 15) [at2 n k] m [] = some ⟨.ret, [showR n k], m, []⟩ := by
  by_cases ho : n < -604799 ∨ 604799 < n ∨ k < 0 ∨ 2 < k
  · rw [show_out (by rcases ho with h | h | h | h; exact .inl (by omega); exact .inr (.inl (by omega)); exact .inr (.inr (.inl h)); exact .inr (.inr (.inr h)))]
    exact R15 (rshB_out _ m ho)
  · have a1 : ¬ n < -604799 := fun h => ho (.inl h)
    have a2 : ¬ 604799 < n := fun h => ho (.inr (.inl h))
    rw [show_in (by rintro (h | h | h | h); exact a1 (by omega); exact a2 (by omega); exact ho (.inr (.inr (.inl h))); exact ho (.inr (.inr (.inr h))))]
    have b1 : -604800 < n := by omega
    have b2 : n < 604800 := by omega
    have := textP_len b1 b2
    exact R15 (rshB_in (by omega) _ m (fun m => shown_V b1 b2 m) ho)
end Go.Proofs.YtbccdlbibcbcfaaDoor.D

namespace Go.Proofs.YtbccdlbibcbcfaaDoor.D
open Go.RowKit
set_option linter.unusedVariables false
set_option linter.unusedSimpArgs false
theorem dg_nat {d : Nat} (h : d < 10) : (dg d).toNat = 48 + d := by simp [dg, UInt8.toNat_ofNat']; omega
theorem isD_dg {d : Nat} (h : d < 10) : isD (dg d) = true := by
  unfold isD; rw [dg_nat h]; simp; omega
theorem dg_ne {d : Nat} (h : d < 10) {c : UInt8} (hc : c.toNat < 48 ∨ 57 < c.toNat) : dg d ≠ c := fun e => by
  have := dg_nat h
  rw [e] at this; omega
theorem val1 {a : Nat} (ha : a < 10) : valF 0 [dg a] = a := by
  rw [valF_cons, valF_nil, dg_nat ha]; omega
theorem val2 {a b : Nat} (ha : a < 10) (hb : b < 10) : valF 0 [dg a, dg b] = a * 10 + b := by
  rw [valF_cons, valF_cons, valF_nil, dg_nat ha, dg_nat hb]; omega
theorem val3 {a b c : Nat} (ha : a < 10) (hb : b < 10) (hc : c < 10) : valF 0 [dg a, dg b, dg c] = (a * 10 + b) * 10 + c := by
  rw [valF_cons, valF_cons, valF_cons, valF_nil, dg_nat ha, dg_nat hb, dg_nat hc]; omega
theorem num_pair {x : Nat} (h : x < 60) : numP 2 2 59 [dg (x / 10), dg (x % 10)] = some x := by
  unfold numP
  rw [val2 (by omega) (by omega)]
  have e : x / 10 * 10 + x % 10 = x := by omega
  rw [e, if_pos]
  simp [isD_dg (d := x / 10) (by omega), isD_dg (d := x % 10) (by omega)]
  omega
theorem dd_shape {h : Nat} (hh : h < 168) : ∃ l, Lib.decDigits h = l ∧ numP 1 3 167 l = some h ∧ (∀ c ∈ l, ∃ d, d < 10 ∧ c = dg d) ∧ l ≠ [] := by
  refine ⟨_, rfl, ?_⟩
  by_cases h1 : h < 10
  · rw [dd_lt h1]
    refine ⟨?_, fun c hc => by simp at hc; exact ⟨h, h1, hc⟩, by simp⟩
    unfold numP
    rw [val1 h1, if_pos]
    simp [isD_dg h1]; omega
  · by_cases h2 : h < 100
    · rw [dd_ge (by omega), dd_lt (by omega)]
      refine ⟨?_, fun c hc => ?_, by simp⟩
      · unfold numP
        show (if (decide (1 ≤ [dg (h / 10), dg (h % 10)].length) && decide ([dg (h / 10), dg (h % 10)].length ≤ 3) && [dg (h / 10), dg (h % 10)].all isD && decide (valF 0 [dg (h / 10), dg (h % 10)] ≤ 167)) = true then some (valF 0 [dg (h / 10), dg (h % 10)]) else none) = some h
        rw [val2 (by omega) (by omega)]
        have e : h / 10 * 10 + h % 10 = h := by omega
        rw [e, if_pos]
        simp [isD_dg (d := h / 10) (by omega), isD_dg (d := h % 10) (by omega)]
        omega
      · simp at hc
        rcases hc with rfl | rfl
        · exact ⟨_, by omega, rfl⟩
        · exact ⟨_, by omega, rfl⟩
    · rw [dd_ge (by omega), dd_ge (by omega), dd_lt (by omega)]
      refine ⟨?_, fun c hc => ?_, by simp⟩
      · unfold numP
        show (if (decide (1 ≤ [dg (h / 10 / 10), dg (h / 10 % 10), dg (h % 10)].length) && decide ([dg (h / 10 / 10), dg (h / 10 % 10), dg (h % 10)].length ≤ 3) && [dg (h / 10 / 10), dg (h / 10 % 10), dg (h % 10)].all isD && decide (valF 0 [dg (h / 10 / 10), dg (h / 10 % 10), dg (h % 10)] ≤ 167)) = true then some (valF 0 [dg (h / 10 / 10), dg (h / 10 % 10), dg (h % 10)]) else none) = some h
        rw [val3 (by omega) (by omega) (by omega)]
        have e : (h / 10 / 10 * 10 + h / 10 % 10) * 10 + h % 10 = h := by omega
        rw [e, if_pos]
        simp [isD_dg (d := h / 10 / 10) (by omega), isD_dg (d := h / 10 % 10) (by omega), isD_dg (d := h % 10) (by omega)]
        omega
      · simp at hc
        rcases hc with rfl | rfl | rfl
        · exact ⟨_, by omega, rfl⟩
        · exact ⟨_, by omega, rfl⟩
        · exact ⟨_, by omega, rfl⟩
theorem no58 {l : List UInt8} (h : ∀ c ∈ l, ∃ d, d < 10 ∧ c = dg d) : 58 ∉ l := fun hm => by
  obtain ⟨d, hd, e⟩ := h _ hm
  exact dg_ne hd (.inr (by decide)) e.symm
theorem two_dg (x : Nat) (h : x < 60) : ∀ c ∈ [dg (x / 10), dg (x % 10)], ∃ d, d < 10 ∧ c = dg d := fun c hc => by
  simp at hc
  rcases hc with rfl | rfl
  · exact ⟨_, by omega, rfl⟩
  · exact ⟨_, by omega, rfl⟩
theorem sec_nat {a : Nat} (h : a < 604800) : secP (splitC 58 (natP a)) = some a := by
  obtain ⟨l, hl, hn, hd, hne⟩ := dd_shape (h := a / 3600) (by omega)
  have hm := num_pair (x := a / 60 % 60) (by omega)
  have hx := num_pair (x := a % 60) (by omega)
  have e1 : natP a = l ++ 58 :: ([dg (a / 60 % 60 / 10), dg (a / 60 % 60 % 10)] ++ (if 0 < a % 60 then pairP (a % 60) else [])) := by
    unfold natP hourP
    rw [hl]
    simp [pairP]
  rw [e1, splitC_at 58 l _ (no58 hd)]
  by_cases hz : 0 < a % 60
  · rw [if_pos hz]
    have e2 : [dg (a / 60 % 60 / 10), dg (a / 60 % 60 % 10)] ++ pairP (a % 60) = [dg (a / 60 % 60 / 10), dg (a / 60 % 60 % 10)] ++ 58 :: [dg (a % 60 / 10), dg (a % 60 % 10)] := rfl
    rw [e2, splitC_at 58 _ _ (no58 (two_dg _ (by omega))), splitC_no 58 _ (no58 (two_dg _ (by omega)))]
    simp only [secP, hn, hm, hx, Option.bind_some, Option.map_some, Option.some.injEq]
    omega
  · rw [if_neg hz, List.append_nil, splitC_no 58 _ (no58 (two_dg _ (by omega)))]
    simp only [secP, hn, hm, Option.bind_some, Option.map_some, Option.some.injEq]
    omega
theorem natP_head {a : Nat} (h : a < 604800) : ∃ d t, d < 10 ∧ natP a = dg d :: t ∧ t ≠ [] := by
  obtain ⟨l, hl, hn, hd, hne⟩ := dd_shape (h := a / 3600) (by omega)
  cases l with
  | nil => exact absurd rfl hne
  | cons c t =>
    obtain ⟨d, h1, rfl⟩ := hd c (by simp)
    refine ⟨d, t ++ pairP (a / 60 % 60) ++ (if 0 < a % 60 then pairP (a % 60) else []), h1, ?_, by simp [pairP]⟩
    unfold natP hourP
    rw [hl]; simp
theorem textP_ne {n : Int} (h1 : -604800 < n) (h2 : n < 604800) : textP n ≠ [45] := by
  obtain ⟨d, t, hd, e, ht⟩ := natP_head (a := n.natAbs) (by omega)
  unfold textP
  rw [e]
  split
  · simp
  · simp [ht]
theorem time_text {n : Int} (h1 : -604800 < n) (h2 : n < 604800) : timeP (textP n) = some n := by
  have hs := sec_nat (a := n.natAbs) (by omega)
  have hne := textP_ne h1 h2
  unfold timeP
  rw [if_neg hne]
  by_cases hn : n < 0
  · have e : textP n = 45 :: natP n.natAbs := by unfold textP; rw [if_pos hn]; rfl
    rw [e, if_pos (by simp)]
    simp only [List.drop_succ_cons, List.drop_zero]
    rw [hs]
    exact congrArg some (show -((n.natAbs : Nat) : Int) = n by omega)
  · have e : textP n = natP n.natAbs := by unfold textP; rw [if_neg hn]; rfl
    obtain ⟨d, t, hd, e2, ht⟩ := natP_head (a := n.natAbs) (by omega)
    rw [e, if_neg]
    · rw [hs]; exact congrArg some (show ((n.natAbs : Nat) : Int) = n by omega)
    · rw [e2]
      rintro ⟨u, hu⟩
      simp at hu
      exact dg_ne hd (.inl (by decide)) hu.1.symm
theorem natP_last {a : Nat} (h : a < 604800) : ∃ d q, q < 10 ∧ natP a = d ++ [dg q] ∧ 1 ≤ d.length := by
  unfold natP
  by_cases hz : 0 < a % 60
  · rw [if_pos hz]
    exact ⟨hourP (a / 3600) ++ pairP (a / 60 % 60) ++ [58, dg (a % 60 / 10)], a % 60 % 10, by omega, by simp [pairP], by simp; omega⟩
  · rw [if_neg hz]
    exact ⟨hourP (a / 3600) ++ [58, dg (a / 60 % 60 / 10)], a / 60 % 60 % 10, by omega, by simp [pairP], by simp⟩
theorem textP_last {n : Int} (h1 : -604800 < n) (h2 : n < 604800) : ∃ d q, q < 10 ∧ textP n = d ++ [dg q] ∧ 1 ≤ d.length := by
  obtain ⟨d, q, hq, e, hd⟩ := natP_last (a := n.natAbs) (by omega)
  refine ⟨(if n < 0 then [45] else []) ++ d, q, hq, by unfold textP; rw [e]; simp, by simp; omega⟩
theorem suf_text {n k : Int} (h1 : -604800 < n) (h2 : n < 604800) (hk : k = 0 ∨ k = 1 ∨ k = 2) : sufP (textP n ++ kindP k) = (textP n, k) := by
  obtain ⟨d, q, hq, e, hd⟩ := textP_last h1 h2
  have hlen : 1 ≤ (textP n).length := by rw [e]; simp
  rcases hk with rfl | rfl | rfl
  · have ek : kindP 0 = [] := rfl
    rw [ek, List.append_nil, e, suf_snoc d _ hd, if_neg (dg_ne hq (.inr (by decide))), if_neg (dg_ne hq (.inr (by decide))), if_neg (dg_ne hq (.inr (by decide))), if_neg (dg_ne hq (.inr (by decide))), if_neg (dg_ne hq (.inr (by decide)))]
  · have ek : kindP 1 = [115] := rfl
    rw [ek, suf_snoc _ _ hlen]; rfl
  · have ek : kindP 2 = [117] := rfl
    rw [ek, suf_snoc _ _ hlen]; rfl
theorem parse_show {n k : Int} (h1 : -604800 < n) (h2 : n < 604800) (hk : k = 0 ∨ k = 1 ∨ k = 2) : parseP (textP n ++ kindP k) = some (n, k) := by
  unfold parseP
  rw [suf_text h1 h2 hk]
  simp only
  rw [if_neg (fun h => textP_ne h1 h2 h.1), time_text h1 h2]
  rfl
theorem suf_kind (s : List UInt8) : (sufP s).2 = 0 ∨ (sufP s).2 = 1 ∨ (sufP s).2 = 2 := by
  by_cases h : s.length < 2
  · rw [suf_short h]; exact .inl rfl
  · obtain ⟨d, c, rfl, hd⟩ := snoc_cases s (by omega)
    rw [suf_snoc d c hd]
    repeat' split
    all_goals simp
theorem parse_in {s : List UInt8} {n k : Int} (h : parseP s = some (n, k)) : -604800 < n ∧ n < 604800 ∧ (k = 0 ∨ k = 1 ∨ k = 2) := by
  unfold parseP at h
  split at h
  · cases h
  · cases ht : timeP (sufP s).1 with
    | none => rw [ht] at h; cases h
    | some v =>
      rw [ht] at h
      have := timeP_le ht
      have hk := suf_kind s
      have e := Option.some.inj h
      simp only [Prod.mk.injEq] at e
      obtain ⟨rfl, rfl⟩ := e
      exact ⟨by omega, by omega, hk⟩
theorem amount_text {n : Int} (h1 : ¬ n < -86400) (h2 : ¬ 86400 < n) : amountP (textP n) = some n := by
  unfold amountP
  rw [time_text (by omega) (by omega)]
  simp only
  rw [if_neg (by rintro (h | h); exact h2 h; exact h1 h)]
end Go.Proofs.YtbccdlbibcbcfaaDoor.D

namespace Go.Proofs.YtbccdlbibcbcfaaDoor.D
open Go.RowKit
set_option linter.unusedVariables false
set_option linter.unusedSimpArgs false
def csaB (O : Orc) (K L : Int) (a0 : Value) (m : Mem) : Option Out :=
(aBin .lss a0 (.int .i64 L)).bind fun v0 =>
br v0 (
some ⟨.ret, [.tuple [(S []), (.int .i64 (1))].toArray], m, []⟩) (
(aBin .gtr a0 (.int .i64 K)).bind fun v1 =>
br v1 (
some ⟨.ret, [.tuple [(S []), (.int .i64 (1))].toArray], m, []⟩) (
retK (O (.call 21) [a0] m []) (fun v2 m3 =>
some ⟨.ret, [.tuple [v2, (.int .i64 (0))].toArray], m3, []⟩) (fun p4 m5 => some ⟨.panic p4, [], m5, []⟩)))
def rsaB (O : Orc) (K L : Int) (a0 : Value) (m : Mem) : Option Out :=
(aBin .lss a0 (.int .i64 L)).bind fun v0 =>
br v0 (
some ⟨.ret, [.tuple [(S []), (.int .i64 (1))].toArray], m, []⟩) (
(aBin .gtr a0 (.int .i64 K)).bind fun v1 =>
br v1 (
some ⟨.ret, [.tuple [(S []), (.int .i64 (1))].toArray], m, []⟩) (
retK (O (.call 22) [a0] m []) (fun v2 m3 =>
some ⟨.ret, [.tuple [v2, (.int .i64 (0))].toArray], m3, []⟩) (fun p4 m5 => some ⟨.panic p4, [], m5, []⟩)))
theorem csaB_out {K L n : Int} (m m' : Mem) (ho : n < L ∨ K < n) : (csaB (LV CV) K L (.int .i64 n) m).bind (close m') = some ⟨.ret, [.tuple #[S [], .int .i64 1]], m', []⟩ := by
  by_cases h1 : n < L
  · simp [csaB, h1]
  · have h2 : K < n := by rcases ho with h | h; exact absurd h h1; exact h
    simp [csaB, h1, h2]
theorem csaB_in {K L n : Int} {T : List UInt8} (m m' : Mem) (h : ∀ m, LV CV (.call 21) [.int .i64 n] m [] = some ⟨.ret, [S T], m, []⟩) (h1 : ¬ n < L) (h2 : ¬ K < n) : (csaB (LV CV) K L (.int .i64 n) m).bind (close m') = some ⟨.ret, [.tuple #[S T, .int .i64 0]], m', []⟩ := by
  simp [csaB, h1, h2, h]
theorem rsaB_out {K L n : Int} (m m' : Mem) (ho : n < L ∨ K < n) : (rsaB (LV CV) K L (.int .i64 n) m).bind (close m') = some ⟨.ret, [.tuple #[S [], .int .i64 1]], m', []⟩ := by
  by_cases h1 : n < L
  · simp [rsaB, h1]
  · have h2 : K < n := by rcases ho with h | h; exact absurd h h1; exact h
    simp [rsaB, h1, h2]
theorem rsaB_in {K L n : Int} {T : List UInt8} (m m' : Mem) (h : ∀ m, LV CV (.call 22) [.int .i64 n] m [] = some ⟨.ret, [S T], m, []⟩) (h1 : ¬ n < L) (h2 : ¬ K < n) : (rsaB (LV CV) K L (.int .i64 n) m).bind (close m') = some ⟨.ret, [.tuple #[S T, .int .i64 0]], m', []⟩ := by
  simp [rsaB, h1, h2, h]
theorem showA_V (n : Int) (m : Mem) : LV CV (.call 16) [.int .i64 n] m [] = some ⟨.ret, [showAmountR n], m, []⟩ := by
  by_cases ho : n < -86400 ∨ 86400 < n
  · rw [showA_out ho]
    exact R16 (csaB_out _ m ho)
  · rw [showA_in ho]
    have h1 : ¬ n < -86400 := fun h => ho (.inl h)
    have h2 : ¬ 86400 < n := fun h => ho (.inr h)
    have b1 : -604800 < n := by omega
    have b2 : n < 604800 := by omega
    exact R16 (csaB_in _ m (fun m => text_V b1 b2 m) h1 h2)
theorem rshowA_V (n : Int) (m : Mem) : LV CV (.call 17) [.int .i64 n] m [] = some ⟨.ret, [showAmountR n], m, []⟩ := by
  by_cases ho : n < -86400 ∨ 86400 < n
  · rw [showA_out ho]
    exact R17 (rsaB_out _ m ho)
  · rw [showA_in ho]
    have h1 : ¬ n < -86400 := fun h => ho (.inl h)
    have h2 : ¬ 86400 < n := fun h => ho (.inr h)
    have b1 : -604800 < n := by omega
    have b2 : n < 604800 := by omega
    exact R17 (rsaB_in _ m (fun m => shown_V b1 b2 m) h1 h2)
theorem showR_at (n k : Int) : ∃ t j, showR n k = .tuple #[S t, .int .i64 j] := by
  unfold showR
  split
  · exact ⟨_, _, rfl⟩
  · exact ⟨_, _, rfl⟩
theorem showAR_at (n : Int) : ∃ t j, showAmountR n = .tuple #[S t, .int .i64 j] := by
  unfold showAmountR
  split
  · exact ⟨_, _, rfl⟩
  · exact ⟨_, _, rfl⟩
theorem shows_V (n k a : Int) (m : Mem) : LV CV (.call 6) [at2 n k, .int .i64 a] m [] = some ⟨.ret, [.bool true], m, []⟩ := by
  refine R6 ?_
  have s1 := fun m => show_V n k m
  have s2 := fun m => rshow_V n k m
  have s3 := fun m => showA_V a m
  have s4 := fun m => rshowA_V a m
  obtain ⟨t, j, e⟩ := showR_at n k
  obtain ⟨u, i, e2⟩ := showAR_at a
  rw [e] at s1 s2
  rw [e2] at s3 s4
  simp [x6, s1, s2, s3, s4]
theorem again_V (s : List UInt8) (m : Mem) : LV CV (.call 4) [S s] m [] = some ⟨.ret, [.bool true], m, []⟩ := by
  refine R4 ?_
  by_cases h : 500 < s.length
  · have h' : (500 : Int) < s.length := by omega
    simp [x4, h']
  · have h' : ¬ (500 : Int) < s.length := by omega
    have p1 := fun m => parse_V (s := s) (by omega) m
    generalize hM : (⟨[], m.next, m.next, 0⟩ : Mem) = M
    have hlo : M.lo ≤ M.next := by rw [← hM]; exact Nat.le_refl _
    have g1 : (M.push ⟨0, [.int .i64 0, .int .i64 0]⟩).get M.next = some ⟨0, [.int .i64 0, .int .i64 0]⟩ := by simp
    unfold parseR at p1
    cases hp : parseP s with
    | none =>
      rw [hp] at p1
      have s1 := aSt_two (a := 0) (b := 0) g1 (by simpa using hlo)
      simp only [x4]
      simp [h', p1, s1, build00, eqS_two]
    | some nk =>
      obtain ⟨n, k⟩ := nk
      rw [hp] at p1
      obtain ⟨b1, b2, hk⟩ := parse_in hp
      have ho : ¬ (n ≤ -604800 ∨ 604800 ≤ n ∨ k < 0 ∨ 2 < k) := by omega
      have sh := fun m => show_V n k m
      rw [show_in ho] at sh
      have hlen := textP_len b1 b2
      have hlen2 := kindP_len k
      have p2 := fun m => parse_V (s := textP n ++ kindP k) (by simp; omega) m
      unfold parseR at p2
      rw [parse_show b1 b2 hk] at p2
      generalize textP n ++ kindP k = T at *
      have s1 := aSt_two (a := n) (b := k) g1 (by simpa using hlo)
      have g2 : (((M.push ⟨0, [.int .i64 0, .int .i64 0]⟩).set M.next ⟨0, [.int .i64 n, .int .i64 k]⟩).push ⟨0, [.int .i64 0, .int .i64 0]⟩).get (M.next + 1) = some ⟨0, [.int .i64 0, .int .i64 0]⟩ := by rw [Mem.get_push, if_pos (by simp)]
      have s2 := aSt_two (a := n) (b := k) g2 (by simp; omega)
      have q1 : ((((M.push ⟨0, [.int .i64 0, .int .i64 0]⟩).set M.next ⟨0, [.int .i64 n, .int .i64 k]⟩).push ⟨0, [.int .i64 0, .int .i64 0]⟩).set (M.next + 1) ⟨0, [.int .i64 n, .int .i64 k]⟩).get M.next = some ⟨0, [.int .i64 n, .int .i64 k]⟩ := by
        rw [Mem.get_set, if_neg (by omega), Mem.get_push, if_neg (by simp), Mem.get_set, if_pos rfl]
      have q2 : ((((M.push ⟨0, [.int .i64 0, .int .i64 0]⟩).set M.next ⟨0, [.int .i64 n, .int .i64 k]⟩).push ⟨0, [.int .i64 0, .int .i64 0]⟩).set (M.next + 1) ⟨0, [.int .i64 n, .int .i64 k]⟩).get (M.next + 1) = some ⟨0, [.int .i64 n, .int .i64 k]⟩ := by
        rw [Mem.get_set, if_pos rfl]
      have sh2 : ∀ m, LV CV (.call 13) [.agg #[.int .i64 n, .int .i64 k]] m [] = some ⟨.ret, [.tuple #[S T, .int .i64 0]], m, []⟩ := sh
      simp only [x4]
      simp [h', p1, s1, s2, q1, q2, sh2, p2, eqS_two]
end Go.Proofs.YtbccdlbibcbcfaaDoor.D
