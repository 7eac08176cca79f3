/-
  The document's time, and both Parse and Amount.
-/
import Derived.Test.YtbccdlbibcbcfaaDoorC5
namespace Go.Proofs.YtbccdlbibcbcfaaDoor.D
open Go.RowKit
set_option linter.unusedVariables false
set_option linter.unusedSimpArgs false
theorem rt_loop {t a : List UInt8} {ps : List (List UInt8)} (ht : t.length < 1000000) (e : splitC 58 t = a :: ps) (low : Value) (m : Mem) :
    LV CV (.loop 2000) [low, sq false false 1 ((a :: ps).map es), .int .i64 (numI 1 3 167 a), .bool (decide (numI 1 3 167 a < 0)), .int .i64 1] m [] =
      some ⟨.exit 0, [low, sq false false 1 ((a :: ps).map es), .int .i64 ((numI 1 3 167 a * 60 + xI (a :: ps) 1) * 60 + xI (a :: ps) 2), .bool (decide (numI 1 3 167 a < 0) || decide (xI (a :: ps) 1 < 0) || decide (xI (a :: ps) 2 < 0)), .int .i64 3], m, []⟩ := by
  have hp : ∀ q ∈ a :: ps, q.length < 1000000000 := fun q hq => by have := splitC_part 58 t q (by rw [e]; exact hq); omega
  have n1 := numI_ge 1 3 167 a
  have x1 := xI_ge (a :: ps) 1
  have x2 := xI_ge (a :: ps) 2
  have h3 : ∀ (n b : Value), LV CV (.loop 2000) [low, sq false false 1 ((a :: ps).map es), n, b, .int .i64 3] m [] = some ⟨.exit 0, [low, sq false false 1 ((a :: ps).map es), n, b, .int .i64 3], m, []⟩ := fun n b => by
    refine Q2000 ?_
    simp [y2000]
  exact rt_step hp (i := 1) (by omega) (by omega) (by omega) _ (rt_step hp (i := 2) (by omega) (by omega) (by omega) _ (h3 _ _))
theorem rtime_V {s : List UInt8} (hs : s.length < 1000000) (m : Mem) : LV CV (.call 20) [S s] m [] = some ⟨.ret, [refR s], m, []⟩ := by
  refine R20 ?_
  generalize hM : (⟨[], m.next, m.next, 0⟩ : Mem) = M
  by_cases h45 : s = [45]
  · subst h45
    have hr : refR [45] = .tuple #[.int .i64 0, .bool true] := rfl
    rw [hr]
    simp [x20]
  · match s, hs, h45 with
    | [], hs, h45 =>
      obtain ⟨a, ps, e⟩ := splitC_ne 58 (([] : List UInt8))
      have hP := fun m => rparts_V (s := ([] : List UInt8)) (by simp) m
      have hal := splitC_part 58 (([] : List UInt8)) a (by rw [e]; simp)
      have hN := fun m => rnum_V (l := a) (by simp only [List.length_cons, List.length_nil] at hs hal; omega) 1 3 167 (by omega) m
      have hL := fun low m => rt_loop (t := ([] : List UInt8)) (by simp) e low m
      rw [e] at hP
      simp only [Int.cast_ofNat_Int, Int.natCast_one, List.map_cons] at hN hP hL
      have hR : refR ([]) = (match secP (a :: ps) with | some n => .tuple #[.int .i64 ((n : Int)), .bool true] | none => .tuple #[.int .i64 0, .bool false]) := by
        unfold refR timeP
        rw [if_neg (by simp), if_neg (by simp)]
        rw [e]
        cases secP (a :: ps) <;> simp
      rw [hR]
      by_cases h2 : ps.length ≤ 2
      · have h2' : ¬ (3 : Int) < (ps.length : Int) + 1 := by omega
        have hsec := secI a ps h2
        have b0 := numI_ge 1 3 167 a
        have b1 := xI_ge (a :: ps) 1
        have b2 := xI_ge (a :: ps) 2
        have hbN : -100000000 ≤ (numI 1 3 167 a * 60 + xI (a :: ps) 1) * 60 + xI (a :: ps) 2 ∧ (numI 1 3 167 a * 60 + xI (a :: ps) 1) * 60 + xI (a :: ps) 2 ≤ 100000000 := by omega
        generalize (decide (numI 1 3 167 a < 0) || decide (xI (a :: ps) 1 < 0) || decide (xI (a :: ps) 2 < 0)) = bad at *
        generalize (numI 1 3 167 a * 60 + xI (a :: ps) 1) * 60 + xI (a :: ps) 2 = N at *
        have w2 : IntKind.wrap .i64 (0 - N) = -N := by rw [wrap_i64 (by omega) (by omega)]; omega
        have w3 : IntKind.wrap .i64 (-N) = -N := wrap_i64 (by omega) (by omega)
        generalize numI 1 3 167 a = I0 at *
        cases bad with
        | true =>
          have hno : secP (a :: ps) = none := by cases hq : secP (a :: ps) with | none => rfl | some v => rw [hq] at hsec; simp at hsec
          rw [hno]
          simp [x20, hP, hN, hL, h2', h45, aUn_neg]
        | false =>
          obtain ⟨v, hv, hvN⟩ : ∃ v : Nat, secP (a :: ps) = some v ∧ N = v := by
            cases hq : secP (a :: ps) with
            | none => rw [hq] at hsec; simp at hsec
            | some v => rw [hq] at hsec; simp at hsec; exact ⟨v, rfl, hsec⟩
          rw [hv]
          subst hvN
          simp [x20, hP, hN, hL, h2', h45, aUn_neg, w2, w3]
      · have h2' : (3 : Int) < (ps.length : Int) + 1 := by omega
        have hno : secP (a :: ps) = none := secP_many _ (by simp; omega)
        rw [hno]
        simp [x20, hP, hN, h2', h45]
    | c :: t, hs, h45 =>
      by_cases hc : c = 45
      · subst hc
        have hl1 : (1 : Int) ≤ (t.length : Int) + 1 := by omega
        obtain ⟨a, ps, e⟩ := splitC_ne 58 (t)
        have hP := fun m => rparts_V (s := t) (by simp at hs; omega) m
        have hal := splitC_part 58 (t) a (by rw [e]; simp)
        have hN := fun m => rnum_V (l := a) (by simp only [List.length_cons, List.length_nil] at hs hal; omega) 1 3 167 (by omega) m
        have hL := fun low m => rt_loop (t := t) (by simp at hs; omega) e low m
        rw [e] at hP
        simp only [Int.cast_ofNat_Int, Int.natCast_one, List.map_cons] at hN hP hL
        have hR : refR (45 :: t) = (match secP (a :: ps) with | some n => .tuple #[.int .i64 (-(n : Int)), .bool true] | none => .tuple #[.int .i64 0, .bool false]) := by
          unfold refR timeP
          rw [if_neg h45, if_pos (by simp)]
          simp only [List.drop_succ_cons, List.drop_zero]
          rw [e]
          cases secP (a :: ps) <;> simp
        rw [hR]
        by_cases h2 : ps.length ≤ 2
        · have h2' : ¬ (3 : Int) < (ps.length : Int) + 1 := by omega
          have hsec := secI a ps h2
          have b0 := numI_ge 1 3 167 a
          have b1 := xI_ge (a :: ps) 1
          have b2 := xI_ge (a :: ps) 2
          have hbN : -100000000 ≤ (numI 1 3 167 a * 60 + xI (a :: ps) 1) * 60 + xI (a :: ps) 2 ∧ (numI 1 3 167 a * 60 + xI (a :: ps) 1) * 60 + xI (a :: ps) 2 ≤ 100000000 := by omega
          generalize (decide (numI 1 3 167 a < 0) || decide (xI (a :: ps) 1 < 0) || decide (xI (a :: ps) 2 < 0)) = bad at *
          generalize (numI 1 3 167 a * 60 + xI (a :: ps) 1) * 60 + xI (a :: ps) 2 = N at *
          have w2 : IntKind.wrap .i64 (0 - N) = -N := by rw [wrap_i64 (by omega) (by omega)]; omega
          have w3 : IntKind.wrap .i64 (-N) = -N := wrap_i64 (by omega) (by omega)
          generalize numI 1 3 167 a = I0 at *
          cases bad with
          | true =>
            have hno : secP (a :: ps) = none := by cases hq : secP (a :: ps) with | none => rfl | some v => rw [hq] at hsec; simp at hsec
            rw [hno]
            simp [x20, hl1, hP, hN, hL, h2', h45, aUn_neg]
          | false =>
            obtain ⟨v, hv, hvN⟩ : ∃ v : Nat, secP (a :: ps) = some v ∧ N = v := by
              cases hq : secP (a :: ps) with
              | none => rw [hq] at hsec; simp at hsec
              | some v => rw [hq] at hsec; simp at hsec; exact ⟨v, rfl, hsec⟩
            rw [hv]
            subst hvN
            simp [x20, hl1, hP, hN, hL, h2', h45, aUn_neg, w2, w3]
        · have h2' : (3 : Int) < (ps.length : Int) + 1 := by omega
          have hno : secP (a :: ps) = none := secP_many _ (by simp; omega)
          rw [hno]
          simp [x20, hl1, hP, hN, h2', h45]
      · have hc1 : ¬ (c.toNat : Int) = 45 := fun h => hc (UInt8.toNat_inj.1 (by show c.toNat = 45; omega))
        have hc2 : ¬ c.toNat = 45 := fun h => hc (UInt8.toNat_inj.1 (by show c.toNat = 45; omega))
        obtain ⟨a, ps, e⟩ := splitC_ne 58 (c :: t)
        have hP := fun m => rparts_V (s := c :: t) (hs) m
        have hal := splitC_part 58 (c :: t) a (by rw [e]; simp)
        have hN := fun m => rnum_V (l := a) (by simp only [List.length_cons, List.length_nil] at hs hal; omega) 1 3 167 (by omega) m
        have hL := fun low m => rt_loop (t := c :: t) (hs) e low m
        rw [e] at hP
        simp only [Int.cast_ofNat_Int, Int.natCast_one, List.map_cons] at hN hP hL
        have hR : refR (c :: t) = (match secP (a :: ps) with | some n => .tuple #[.int .i64 ((n : Int)), .bool true] | none => .tuple #[.int .i64 0, .bool false]) := by
          unfold refR timeP
          rw [if_neg h45, if_neg (by simp; exact fun h => hc h.symm)]
          rw [e]
          cases secP (a :: ps) <;> simp
        rw [hR]
        by_cases h2 : ps.length ≤ 2
        · have h2' : ¬ (3 : Int) < (ps.length : Int) + 1 := by omega
          have hsec := secI a ps h2
          have b0 := numI_ge 1 3 167 a
          have b1 := xI_ge (a :: ps) 1
          have b2 := xI_ge (a :: ps) 2
          have hbN : -100000000 ≤ (numI 1 3 167 a * 60 + xI (a :: ps) 1) * 60 + xI (a :: ps) 2 ∧ (numI 1 3 167 a * 60 + xI (a :: ps) 1) * 60 + xI (a :: ps) 2 ≤ 100000000 := by omega
          generalize (decide (numI 1 3 167 a < 0) || decide (xI (a :: ps) 1 < 0) || decide (xI (a :: ps) 2 < 0)) = bad at *
          generalize (numI 1 3 167 a * 60 + xI (a :: ps) 1) * 60 + xI (a :: ps) 2 = N at *
          have w2 : IntKind.wrap .i64 (0 - N) = -N := by rw [wrap_i64 (by omega) (by omega)]; omega
          have w3 : IntKind.wrap .i64 (-N) = -N := wrap_i64 (by omega) (by omega)
          generalize numI 1 3 167 a = I0 at *
          cases bad with
          | true =>
            have hno : secP (a :: ps) = none := by cases hq : secP (a :: ps) with | none => rfl | some v => rw [hq] at hsec; simp at hsec
            rw [hno]
            simp [x20, hc1, hP, hN, hL, h2', h45, aUn_neg]
          | false =>
            obtain ⟨v, hv, hvN⟩ : ∃ v : Nat, secP (a :: ps) = some v ∧ N = v := by
              cases hq : secP (a :: ps) with
              | none => rw [hq] at hsec; simp at hsec
              | some v => rw [hq] at hsec; simp at hsec; exact ⟨v, rfl, hsec⟩
            rw [hv]
            subst hvN
            simp [x20, hc1, hP, hN, hL, h2', h45, aUn_neg, w2, w3]
        · have h2' : (3 : Int) < (ps.length : Int) + 1 := by omega
          have hno : secP (a :: ps) = none := secP_many _ (by simp; omega)
          rw [hno]
          simp [x20, hc1, hP, hN, h2', h45]
end Go.Proofs.YtbccdlbibcbcfaaDoor.D
