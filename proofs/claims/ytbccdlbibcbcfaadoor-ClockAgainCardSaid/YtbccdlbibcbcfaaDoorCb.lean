/-
  Show and ShowAmount, the program's and the document's; the law ClockShows.
-/
import Derived.Test.YtbccdlbibcbcfaaDoorCa
namespace Go.Proofs.YtbccdlbibcbcfaaDoor.D
open Go.RowKit
set_option linter.unusedVariables false
set_option linter.unusedSimpArgs false
theorem itoaN_V {n : Nat} (h : n < 1000) (m : Mem) : LV CV (.call 29) [.int .i64 n] m [] = some ⟨.ret, [S (Lib.decDigits n)], m, []⟩ := by
  have := itoa_V (n := (n : Int)) (by omega) (by omega) m
  have e : Lib.itoa (n : Int) = Lib.decDigits n := by unfold Lib.itoa; rw [if_neg (by omega)]; simp
  rw [e] at this
  exact this
/-- The numbers of a text, without their sign. -/
structure Nm (a : Nat) : Prop where
  q1 : (a : Int).tdiv 3600 = ((a / 3600 : Nat) : Int)
  q2 : (a : Int).tdiv 60 = ((a / 60 : Nat) : Int)
  r1 : ((a / 60 : Nat) : Int).tmod 60 = ((a / 60 % 60 : Nat) : Int)
  r2 : (a : Int).tmod 60 = ((a % 60 : Nat) : Int)
theorem Nm.of (a : Nat) : Nm a :=
  ⟨by rw [Int.tdiv_eq_ediv_of_nonneg (by omega)]; rfl, by rw [Int.tdiv_eq_ediv_of_nonneg (by omega)]; rfl, by rw [Int.tmod_eq_emod_of_nonneg (by omega)]; rfl, by rw [Int.tmod_eq_emod_of_nonneg (by omega)]; rfl⟩
theorem text_V {n : Int} (h1 : -604800 < n) (h2 : n < 604800) (m : Mem) : LV CV (.call 21) [.int .i64 n] m [] = some ⟨.ret, [S (textP n)], m, []⟩ := by
  refine R21 ?_
  obtain ⟨a, ha, hs⟩ : ∃ a : Nat, a < 604800 ∧ (n < 0 ∧ n = -(a : Int) ∧ textP n = [45] ++ natP a ∨ ¬ n < 0 ∧ n = a ∧ textP n = natP a) := by
    refine ⟨n.natAbs, by omega, ?_⟩
    by_cases h : n < 0
    · exact .inl ⟨h, by omega, by unfold textP; rw [if_pos h]⟩
    · exact .inr ⟨h, by omega, by unfold textP; rw [if_neg h]; rfl⟩
  obtain ⟨q1, q2, r1, r2⟩ := Nm.of a
  have w1 : IntKind.wrap .i64 ((a / 3600 : Nat) : Int) = ((a / 3600 : Nat) : Int) := wrap_i64 (by omega) (by omega)
  have w2 : IntKind.wrap .i64 ((a / 60 : Nat) : Int) = ((a / 60 : Nat) : Int) := wrap_i64 (by omega) (by omega)
  have w3 : IntKind.wrap .i64 (0 - -(a : Int)) = (a : Int) := by rw [wrap_i64 (by omega) (by omega)]; omega
  have w4 : IntKind.wrap .i64 (a : Int) = (a : Int) := wrap_i64 (by omega) (by omega)
  have w5 : IntKind.wrap .i64 (- -(a : Int)) = (a : Int) := by rw [wrap_i64 (by omega) (by omega)]; omega
  have hh := fun m => itoaN_V (n := a / 3600) (by omega) m
  have hm := fun m => pair_V (n := a / 60 % 60) (by omega) m
  have hx := fun m => pair_V (n := a % 60) (by omega) m
  have hl := dd_len3 (n := a / 3600) (by omega)
  have hN : natP a = Lib.decDigits (a / 3600) ++ pairP (a / 60 % 60) ++ (if 0 < a % 60 then pairP (a % 60) else []) := rfl
  have l1 : (pairP (a / 60 % 60)).length = 3 := rfl
  have l2 : (pairP (a % 60)).length = 3 := rfl
  generalize Lib.decDigits (a / 3600) = H at *
  generalize pairP (a / 60 % 60) = P at *
  generalize pairP (a % 60) = X at *
  generalize a / 3600 = A1 at *
  generalize a / 60 % 60 = A3 at *
  generalize a / 60 = A2 at *
  have c0 : H.length ≤ 4611686018427387904 := by omega
  have c1 : H.length ≤ 4611686018427387903 := by omega
  have c2 : H.length ≤ 4611686018427387902 := by omega
  have c3 : H.length ≤ 4611686018427387901 := by omega
  have c4 : H.length ≤ 4611686018427387900 := by omega
  have c5 : H.length ≤ 4611686018427387899 := by omega
  have c6 : H.length ≤ 4611686018427387898 := by omega
  have c7 : H.length ≤ 4611686018427387897 := by omega
  have c8 : H.length ≤ 4611686018427387896 := by omega
  have hK : ¬ (3600 : Int) = 0 := by decide
  have d1 : 1 + (H.length + 3) ≤ 4611686018427387904 := by omega
  have d2 : 1 + H.length ≤ 4611686018427387904 := by omega
  have d3 : 1 + H.length + 3 ≤ 4611686018427387904 := by omega
  have d4 : 1 + (H.length + 3) + 3 ≤ 4611686018427387904 := by omega
  have d5 : 1 + H.length ≤ 4611686018427387901 := by omega
  have d6 : 1 + (H.length + 3) ≤ 4611686018427387901 := by omega
  have b1 : H.length + P.length ≤ 4611686018427387904 := by omega
  have b2 : H.length + P.length + 1 ≤ 4611686018427387904 := by omega
  have b3 : H.length + P.length + X.length ≤ 4611686018427387904 := by omega
  have b4 : H.length + P.length + X.length + 1 ≤ 4611686018427387904 := by omega
  have b5 : H.length + (P.length + X.length) ≤ 4611686018427387904 := by omega
  by_cases hz : 0 < a % 60
  · have hz' : (0 : Int) < ((a % 60 : Nat) : Int) := by omega
    rw [if_pos hz] at hN
    generalize a % 60 = A4 at *
    rcases hs with ⟨hn, rfl, ht⟩ | ⟨hn, rfl, ht⟩
    · rw [ht, hN]
      generalize hAN : -(a : Int) = AN at *
      unfold x21
      generalize (3600 : Int) = K at *
      simp [hn, aUn_neg, w3, w4, w5, q1, q2, r1, r2, w1, w2, hh, hm, hx, hz', hz, l1, l2, cutN, hK, d1, d2, d3, d4, d5, d6, c0, c1, c2, c3, c4, c5, c6, c7, c8]
    · rw [ht, hN]
      unfold x21
      generalize (3600 : Int) = K at *
      simp [hn, aUn_neg, w3, w4, w5, q1, q2, r1, r2, w1, w2, hh, hm, hx, hz', hz, l1, l2, cutN, hK, d1, d2, d3, d4, d5, d6, c0, c1, c2, c3, c4, c5, c6, c7, c8]
  · have hz' : ¬ (0 : Int) < ((a % 60 : Nat) : Int) := by omega
    rw [if_neg hz] at hN
    generalize a % 60 = A4 at *
    rcases hs with ⟨hn, rfl, ht⟩ | ⟨hn, rfl, ht⟩
    · rw [ht, hN]
      generalize hAN : -(a : Int) = AN at *
      unfold x21
      generalize (3600 : Int) = K at *
      simp [hn, aUn_neg, w3, w4, w5, q1, q2, r1, r2, w1, w2, hh, hm, hx, hz', hz, l1, l2, cutN, hK, d1, d2, d3, d4, d5, d6, c0, c1, c2, c3, c4, c5, c6, c7, c8]
    · rw [ht, hN]
      unfold x21
      generalize (3600 : Int) = K at *
      simp [hn, aUn_neg, w3, w4, w5, q1, q2, r1, r2, w1, w2, hh, hm, hx, hz', hz, l1, l2, cutN, hK, d1, d2, d3, d4, d5, d6, c0, c1, c2, c3, c4, c5, c6, c7, c8]
theorem shown_V {n : Int} (h1 : -604800 < n) (h2 : n < 604800) (m : Mem) : LV CV (.call 22) [.int .i64 n] m [] = some ⟨.ret, [S (textP n)], m, []⟩ := by
  refine R22 ?_
  obtain ⟨a, ha, hs⟩ : ∃ a : Nat, a < 604800 ∧ (n < 0 ∧ n = -(a : Int) ∧ textP n = [45] ++ natP a ∨ ¬ n < 0 ∧ n = a ∧ textP n = natP a) := by
    refine ⟨n.natAbs, by omega, ?_⟩
    by_cases h : n < 0
    · exact .inl ⟨h, by omega, by unfold textP; rw [if_pos h]⟩
    · exact .inr ⟨h, by omega, by unfold textP; rw [if_neg h]; rfl⟩
  obtain ⟨q1, q2, r1, r2⟩ := Nm.of a
  have w1 : IntKind.wrap .i64 ((a / 3600 : Nat) : Int) = ((a / 3600 : Nat) : Int) := wrap_i64 (by omega) (by omega)
  have w2 : IntKind.wrap .i64 ((a / 60 : Nat) : Int) = ((a / 60 : Nat) : Int) := wrap_i64 (by omega) (by omega)
  have w3 : IntKind.wrap .i64 (0 - -(a : Int)) = (a : Int) := by rw [wrap_i64 (by omega) (by omega)]; omega
  have w4 : IntKind.wrap .i64 (a : Int) = (a : Int) := wrap_i64 (by omega) (by omega)
  have w5 : IntKind.wrap .i64 (- -(a : Int)) = (a : Int) := by rw [wrap_i64 (by omega) (by omega)]; omega
  have hh := fun m => rint_V (n := a / 3600) (by omega) m
  have hm := fun m => two_V (n := a / 60 % 60) (by omega) m
  have hx := fun m => two_V (n := a % 60) (by omega) m
  have hl := dd_len3 (n := a / 3600) (by omega)
  have hN : natP a = Lib.decDigits (a / 3600) ++ pairP (a / 60 % 60) ++ (if 0 < a % 60 then pairP (a % 60) else []) := rfl
  have l1 : (pairP (a / 60 % 60)).length = 3 := rfl
  have l2 : (pairP (a % 60)).length = 3 := rfl
  generalize Lib.decDigits (a / 3600) = H at *
  generalize pairP (a / 60 % 60) = P at *
  generalize pairP (a % 60) = X at *
  generalize a / 3600 = A1 at *
  generalize a / 60 % 60 = A3 at *
  generalize a / 60 = A2 at *
  have c0 : H.length ≤ 4611686018427387904 := by omega
  have c1 : H.length ≤ 4611686018427387903 := by omega
  have c2 : H.length ≤ 4611686018427387902 := by omega
  have c3 : H.length ≤ 4611686018427387901 := by omega
  have c4 : H.length ≤ 4611686018427387900 := by omega
  have c5 : H.length ≤ 4611686018427387899 := by omega
  have c6 : H.length ≤ 4611686018427387898 := by omega
  have c7 : H.length ≤ 4611686018427387897 := by omega
  have c8 : H.length ≤ 4611686018427387896 := by omega
  have hK : ¬ (3600 : Int) = 0 := by decide
  have d1 : 1 + (H.length + 3) ≤ 4611686018427387904 := by omega
  have d2 : 1 + H.length ≤ 4611686018427387904 := by omega
  have d3 : 1 + H.length + 3 ≤ 4611686018427387904 := by omega
  have d4 : 1 + (H.length + 3) + 3 ≤ 4611686018427387904 := by omega
  have d5 : 1 + H.length ≤ 4611686018427387901 := by omega
  have d6 : 1 + (H.length + 3) ≤ 4611686018427387901 := by omega
  have b0 : H.length ≤ 4611686018427387904 := by omega
  have b6 : H.length + 1 ≤ 4611686018427387904 := by omega
  by_cases hz : 0 < a % 60
  · have hz' : ¬ ((a % 60 : Nat) : Int) = 0 := by omega
    have hz2 : ¬ a % 60 = 0 := by omega
    rw [if_pos hz] at hN
    generalize a % 60 = A4 at *
    rcases hs with ⟨hn, rfl, ht⟩ | ⟨hn, rfl, ht⟩
    · rw [ht, hN]
      generalize hAN : -(a : Int) = AN at *
      unfold x22
      generalize (3600 : Int) = K at *
      simp [hn, aUn_neg, w3, w4, w5, q1, q2, r1, r2, w1, w2, hh, hm, hx, hz', hz, hz2, l1, l2, cutN, hK, d1, d2, d3, d4, d5, d6, c0, c1, c2, c3, c4, c5, c6, c7, c8]
    · rw [ht, hN]
      unfold x22
      generalize (3600 : Int) = K at *
      simp [hn, aUn_neg, w3, w4, w5, q1, q2, r1, r2, w1, w2, hh, hm, hx, hz', hz, hz2, l1, l2, cutN, hK, d1, d2, d3, d4, d5, d6, c0, c1, c2, c3, c4, c5, c6, c7, c8]
  · have hz0 : a % 60 = 0 := by omega
    rw [if_neg hz] at hN
    rw [hz0] at r2
    rcases hs with ⟨hn, rfl, ht⟩ | ⟨hn, rfl, ht⟩
    · rw [ht, hN]
      generalize hAN : -(a : Int) = AN at *
      unfold x22
      generalize (3600 : Int) = K at *
      simp [hn, aUn_neg, w3, w4, w5, q1, q2, r1, r2, w1, w2, hh, hm, hx, l1, l2, cutN, hK, d1, d2, d3, d4, d5, d6, c0, c1, c2, c3, c4, c5, c6, c7, c8]
    · rw [ht, hN]
      unfold x22
      generalize (3600 : Int) = K at *
      simp [hn, aUn_neg, w3, w4, w5, q1, q2, r1, r2, w1, w2, hh, hm, hx, l1, l2, cutN, hK, d1, d2, d3, d4, d5, d6, c0, c1, c2, c3, c4, c5, c6, c7, c8]
end Go.Proofs.YtbccdlbibcbcfaaDoor.D
