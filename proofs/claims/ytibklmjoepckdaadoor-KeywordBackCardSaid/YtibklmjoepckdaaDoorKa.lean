import Derived.Test.YtibklmjoepckdaaDoorK9
namespace Go.Proofs.YtibklmjoepckdaaDoor.D
open Go.RowKit
set_option linter.unusedVariables false
set_option linter.unusedSimpArgs false
def maxT : List UInt8 := [109, 97, 120]
def onlyT : List UInt8 := [111, 110, 108, 121]
def showP (a b : Int) : List UInt8 × Int := if a < 1 ∨ 9999 < a then ([], 8) else if b = 10000 then (maxT, 0) else if b < a ∨ 9999 < b then ([], 8) else if b = a then (onlyT, 0) else (decP b.toNat, 0)
theorem year_V (a : Int) (m : Mem) : LV CV (.call 35) [.int .i64 a] m [] = some ⟨.ret, [.bool (decide (1 ≤ a) && decide (a ≤ 9999))], m, []⟩ := by
  refine R35 ?_
  by_cases h1 : 1 ≤ a <;> simp [x35, h1]
theorem yearP_eq (l : List UInt8) : yearP l = if (pint l).2 = 0 then (if (pint l).1 < 1 then (0, 8) else if 9999 < (pint l).1 then (0, 8) else ((pint l).1, 0)) else (0, 8) := by
  unfold yearP
  by_cases h : (pint l).2 = 0
  · rw [if_pos h]
    by_cases h1 : (pint l).1 < 1
    · rw [if_pos h1, if_neg (by omega)]
    · rw [if_neg h1]
      by_cases h2 : 9999 < (pint l).1
      · rw [if_pos h2, if_neg (by omega)]
      · rw [if_neg h2, if_pos (by omega)]
  · rw [if_neg h, if_neg (fun e => h e.1)]
theorem from_V {l : List UInt8} (hl : l.length < 1000000000) (m : Mem) : LV CV (.call 20) [S l] m [] = some ⟨.ret, [.tuple #[.int .i64 (yearP l).1, .int .i64 (yearP l).2]], m, []⟩ := by
  refine R20 ?_
  have hp := fun m => parseInt_V hl m
  rw [yearP_eq]
  generalize (pint l).1 = p at *
  generalize (pint l).2 = q at *
  by_cases h0 : q = 0
  · by_cases h2 : 9999 < p
    · have h1 : ¬ p < 1 := by omega
      simp [x20, hp, h0, h1, h2]
    · by_cases h1 : p < 1
      · have h3 : ¬ 1 ≤ p := by omega
        simp [x20, hp, h0, h1, h2, year_V, h3]
      · have h3 : 1 ≤ p := by omega
        have h4 : p ≤ 9999 := by omega
        simp [x20, hp, h0, h1, h2, year_V, h3, h4]
  · simp [x20, hp, h0]
theorem rfrom_V {l : List UInt8} (hl : l.length < 1000000000) (m : Mem) : LV CV (.call 21) [S l] m [] = some ⟨.ret, [.tuple #[.int .i64 (yearP l).1, .int .i64 (yearP l).2]], m, []⟩ := by
  refine R21 ?_
  have hp := fun m => rparse_V hl m
  rw [yearP_eq]
  generalize (pint l).1 = p at *
  generalize (pint l).2 = q at *
  by_cases h0 : q = 0
  · by_cases h1 : p < 1
    · simp [x21, hp, h0, h1]
    · by_cases h2 : 9999 < p
      · simp [x21, hp, h0, h1, h2]
      · simp [x21, hp, h0, h1, h2]
  · simp [x21, hp, h0]
theorem yearP_bad {l : List UInt8} (h : ¬ (yearP l).2 = 0) : yearP l = (0, 8) := by
  unfold yearP at *
  split at h
  · exact absurd rfl h
  · rename_i e; rw [if_neg e]
theorem litTo (m : Mem) : vLit 1 3 [(S [])] [(0, (S [111, 110, 108, 121])), (1, (S [109, 97, 120, 105, 109, 117, 109])), (2, (S [109, 105, 110, 105, 109, 117, 109]))] m = some (fz 1 true (toW.map es), m) := rfl
theorem to_V {l : List UInt8} (hl : l.length < 1000000000) (a : Int) (m : Mem) : LV CV (.call 22) [S l, .int .i64 a] m [] = some ⟨.ret, [.tuple #[.int .i64 (toP l a).1, .int .i64 (toP l a).2]], m, []⟩ := by
  refine R22 ?_
  have h1 := fun m => one_V true (ws := toW) (by decide) hl m
  have h2 := fun m => from_V hl m
  unfold toP
  generalize oneW l toW = w at *
  by_cases w1 : w = 1
  · simp [x22, litTo, h1, w1]
  · by_cases w2 : w = 2
    · simp [x22, litTo, h1, w2]
    · by_cases h0 : (yearP l).2 = 0
      · by_cases h3 : (yearP l).1 < a
        · have h4 : ¬ a ≤ (yearP l).1 := by omega
          simp [x22, litTo, h1, w1, w2, h2, h0, h3, h4]
        · have h4 : a ≤ (yearP l).1 := by omega
          simp [x22, litTo, h1, w1, w2, h2, h0, h3, h4]
      · have hb := yearP_bad h0
        rw [hb] at h2
        simp [x22, litTo, h1, w1, w2, h2, h0]
theorem rto_V {l : List UInt8} (hl : l.length < 1000000000) (a : Int) (m : Mem) : LV CV (.call 23) [S l, .int .i64 a] m [] = some ⟨.ret, [.tuple #[.int .i64 (toP l a).1, .int .i64 (toP l a).2]], m, []⟩ := by
  refine R23 ?_
  have h1 := fun m => find_V true (ws := toW) (by decide) hl m
  have h2 := fun m => rfrom_V hl m
  unfold toP
  rw [one_find]
  generalize findW l toW = w at *
  by_cases w1 : w = 1
  · simp [x23, litTo, h1, w1]
  · by_cases w2 : w = 2
    · simp [x23, litTo, h1, w2]
    · by_cases h0 : (yearP l).2 = 0
      · by_cases h3 : (yearP l).1 < a
        · have h4 : ¬ a ≤ (yearP l).1 := by omega
          simp [x23, litTo, h1, w1, w2, h2, h0, h3, h4]
        · have h4 : a ≤ (yearP l).1 := by omega
          simp [x23, litTo, h1, w1, w2, h2, h0, h3, h4]
      · simp [x23, litTo, h1, w1, w2, h2, h0]
theorem show_V (a b : Int) (m : Mem) : LV CV (.call 24) [.int .i64 a, .int .i64 b] m [] = some ⟨.ret, [.tuple #[S (showP a b).1, .int .i64 (showP a b).2]], m, []⟩ := by
  refine R24 ?_
  unfold showP
  by_cases h1 : a < 1
  · have h1' : ¬ 1 ≤ a := by omega
    simp [x24, year_V, h1, h1']
  by_cases h2 : 9999 < a
  · have h2' : ¬ a ≤ 9999 := by omega
    simp [x24, year_V, h1, h2, h2']
  have h1' : 1 ≤ a := by omega
  have h2' : a ≤ 9999 := by omega
  by_cases h3 : b = 10000
  · simp [x24, year_V, h1, h1', h2, h2', h3, maxT]
  by_cases h4 : b < a
  · simp [x24, year_V, h1, h1', h2, h2', h3, h4]
  have h5 : 1 ≤ b := by omega
  by_cases h6 : 9999 < b
  · have h6' : ¬ b ≤ 9999 := by omega
    simp [x24, year_V, h1, h1', h2, h2', h3, h4, h5, h6, h6']
  have h6' : b ≤ 9999 := by omega
  by_cases h7 : b = a
  · subst h7
    simp [x24, year_V, h1, h1', h2, h2', h3, onlyT]
  · obtain ⟨n, rfl⟩ : ∃ n : Nat, b = n := ⟨b.toNat, by omega⟩
    have hi := fun m => escInt_V (n := n) (by omega) m
    simp only [Int.toNat_natCast]
    have hw : IntKind.wrap .i64 (n : Int) = n := wrap_i64 (by omega) (by omega)
    simp [x24, year_V, h1, h1', h2, h2', h3, h4, h5, h6, h6', h7, hi, hw]
theorem rshow_V (a b : Int) (m : Mem) : LV CV (.call 25) [.int .i64 a, .int .i64 b] m [] = some ⟨.ret, [.tuple #[S (showP a b).1, .int .i64 (showP a b).2]], m, []⟩ := by
  refine R25 ?_
  unfold showP
  by_cases h1 : a < 1
  · simp [x25, h1]
  by_cases h2 : 9999 < a
  · simp [x25, h1, h2]
  by_cases h3 : b = 10000
  · have h3' : ¬ (10000 : Int) = a := by omega
    simp [x25, h1, h2, h3, h3', maxT]
  by_cases h4 : b < a
  · simp [x25, h1, h2, h3, h4]
  by_cases h6 : 9999 < b
  · simp [x25, h1, h2, h3, h4, h6]
  by_cases h7 : b = a
  · subst h7
    simp [x25, h1, h2, h3, onlyT]
  · obtain ⟨n, rfl⟩ : ∃ n : Nat, b = n := ⟨b.toNat, by omega⟩
    have hi := fun m => rint_V (n := n) (by omega) m
    simp only [Int.toNat_natCast]
    have hw : IntKind.wrap .i64 (n : Int) = n := wrap_i64 (by omega) (by omega)
    simp [x25, h1, h2, h3, h4, h6, h7, hi, hw]
theorem years_V {s : List UInt8} (a b : Int) (m : Mem) : LV CV (.call 7) [S s, .int .i64 a, .int .i64 b] m [] = some ⟨.ret, [.bool true], m, []⟩ := by
  refine R7 ?_
  by_cases h : (200 : Int) < s.length
  · simp [x7, h]
  · have hs : s.length < 1000000000 := by omega
    simp [x7, h, from_V hs, rfrom_V hs, to_V hs, rto_V hs, show_V, rshow_V]
end Go.Proofs.YtibklmjoepckdaaDoor.D
