import Derived.Test.YtibklmjoepckdaaDoorK4
import Derived.Test.YtibklmjoepckdaaDoorKi
namespace Go.Proofs.YtibklmjoepckdaaDoor.D
open Go.RowKit
set_option linter.unusedVariables false
set_option linter.unusedSimpArgs false
@[simp] theorem aUn_neg (k : IntKind) (n : Int) : aUn .neg (.int k n) = some (.int k (k.wrap (0 - n))) := rfl
theorem wrap_i64_mod (n : Int) : IntKind.wrap .i64 n = if n % 18446744073709551616 ≥ 9223372036854775808 then n % 18446744073709551616 - 18446744073709551616 else n % 18446744073709551616 := by
  have e1 : (IntKind.i64.signed && decide (n % (2 ^ IntKind.i64.bits : Int) ≥ (2 ^ (IntKind.i64.bits - 1) : Int))) = decide (n % 18446744073709551616 ≥ 9223372036854775808) := rfl
  unfold IntKind.wrap
  simp only [e1, decide_eq_true_eq]
  rfl
theorem lowT_eq (l : List UInt8) : lowT l = (decide ([45] <+: l), if [45] <+: l then l.drop 1 else l) := by
  unfold lowT
  split
  · simp
  · rename_i h
    have : ¬ [45] <+: l := by
      rintro ⟨t, rfl⟩
      exact h t rfl
    simp [this]
theorem pi_loop (t : List UInt8) (ht : t.length < 1000000000) (low : Bool) (most : Nat) (h9 : 9 ≤ most) (hm : most ≤ 9223372036854775808) (m : Mem) : ∀ (k i u : Nat) (over : Bool), i + k = t.length → u ≤ most →
    (((t.drop i).all digitB = true ∧ ∃ u' : Nat, LV CV (.loop 3400) [undef, undef, S t, .bool low, .int .u64 most, .int .u64 u, .bool over, .int .i64 t.length, .int .i64 i] m [] =
        some ⟨.exit 0, [undef, undef, S t, .bool low, .int .u64 most, .int .u64 u', .bool (over || decide (most < valD u (t.drop i))), .int .i64 t.length, .int .i64 t.length], m, []⟩ ∧ ((over || decide (most < valD u (t.drop i))) = false → u' = valD u (t.drop i))) ∨
      ((t.drop i).all digitB = false ∧ ∃ b c d, LV CV (.loop 3400) [undef, undef, S t, .bool low, .int .u64 most, .int .u64 u, .bool over, .int .i64 t.length, .int .i64 i] m [] =
        some ⟨.ret, [.int .i64 0, .int .i64 3, S t, .bool low, .int .u64 most, b, c, .int .i64 t.length, d], m, []⟩)) := by
  intro k
  induction k with
  | zero =>
    intro i u over hi hu
    obtain rfl : i = t.length := by omega
    rw [List.drop_length]
    have h1 : ¬ most < u := by omega
    have h2 : valD u [] = u := rfl
    refine .inl ⟨rfl, u, Q3400 ?_, fun _ => rfl⟩
    simp [y3400, h2, h1]
  | succ k ih =>
    intro i u over hi hu
    have hlt : i < t.length := by omega
    have hb := t[i].toNat_lt
    have hw : IntKind.wrap .i64 ((i : Int) + 1) = (i : Int) + 1 := wrap_i64 (by omega) (by omega)
    have hd : t.drop i = t[i] :: t.drop (i + 1) := List.drop_eq_getElem_cons hlt
    rw [hd, valD_cons]
    have hall : (t[i] :: t.drop (i + 1)).all digitB = (digitB t[i] && (t.drop (i + 1)).all digitB) := rfl
    rw [hall]
    by_cases hdg : 48 ≤ t[i].toNat ∧ t[i].toNat ≤ 57
    · have hdb : digitB t[i] = true := by simp [digitB, hdg]
      rw [hdb, Bool.true_and]
      generalize hD : t[i].toNat - 48 = D at *
      have e0 : (t[i].toNat : Int) - 48 = D := by omega
      have w1 : IntKind.wrap .u8 (D : Int) = D := wrap_u8 (by omega) (by omega)
      have w2 : IntKind.wrap .u64 (D : Int) = D := wrap_u64 (by omega) (by omega)
      have n9 : ¬ (9 : Int) < D := by omega
      have w3 : IntKind.wrap .u64 ((most : Int) - D) = (most : Int) - D := wrap_u64 (by omega) (by omega)
      have q1 : ((most : Int) - D).tdiv 10 = ((most : Int) - D) / 10 := Int.tdiv_eq_ediv_of_nonneg (by omega)
      have w4 : IntKind.wrap .u64 (((most : Int) - D) / 10) = ((most : Int) - D) / 10 := wrap_u64 (by omega) (by omega)
      cases over with
      | true =>
        have hi2 := ih (i + 1) u true (by omega) hu
        rw [Int.natCast_add, Int.natCast_one] at hi2
        rcases hi2 with ⟨a1, u', a2, a3⟩ | ⟨a1, b, c, d, a2⟩
        · refine .inl ⟨a1, u', Q3400 ?_, fun h => by simp at h⟩
          simp only [Bool.true_or] at a2 ⊢
          simp [y3400, hlt, e0, w1, w2, n9, hw, a2]
        · refine .inr ⟨a1, b, c, d, Q3400 ?_⟩
          simp [y3400, hlt, e0, w1, w2, n9, hw, a2]
      | false =>
        by_cases hov : most < u * 10 + D
        · have c1 : ((most : Int) - D) / 10 < u := by omega
          have hi2 := ih (i + 1) u true (by omega) hu
          rw [Int.natCast_add, Int.natCast_one] at hi2
          have hbig : most < valD (u * 10 + D) (t.drop (i + 1)) := Nat.lt_of_lt_of_le hov (valD_mono _ _)
          rcases hi2 with ⟨a1, u', a2, a3⟩ | ⟨a1, b, c, d, a2⟩
          · refine .inl ⟨a1, u', Q3400 ?_, fun h => by simp [hbig] at h⟩
            simp only [Bool.true_or] at a2
            simp [y3400, hlt, e0, w1, w2, w3, w4, q1, c1, n9, hw, a2, hbig]
          · refine .inr ⟨a1, b, c, d, Q3400 ?_⟩
            simp [y3400, hlt, e0, w1, w2, w3, w4, q1, c1, n9, hw, a2]
        · have c1 : ¬ ((most : Int) - D) / 10 < u := by omega
          have w5 : IntKind.wrap .u64 ((u : Int) * 10) = (u : Int) * 10 := wrap_u64 (by omega) (by omega)
          have w6 : IntKind.wrap .u64 ((u : Int) * 10 + D) = (u : Int) * 10 + D := wrap_u64 (by omega) (by omega)
          have hi2 := ih (i + 1) (u * 10 + D) false (by omega) (by omega)
          have ec : ((u * 10 + D : Nat) : Int) = (u : Int) * 10 + D := by omega
          rw [Int.natCast_add i, Int.natCast_one, ec] at hi2
          rcases hi2 with ⟨a1, u', a2, a3⟩ | ⟨a1, b, c, d, a2⟩
          · refine .inl ⟨a1, u', Q3400 ?_, a3⟩
            simp [y3400, hlt, e0, w1, w2, w3, w4, w5, w6, q1, c1, n9, hw, a2]
          · refine .inr ⟨a1, b, c, d, Q3400 ?_⟩
            simp [y3400, hlt, e0, w1, w2, w3, w4, w5, w6, q1, c1, n9, hw, a2]
    · have hdb : digitB t[i] = false := by
        have : ¬ (48 ≤ t[i].toNat ∧ t[i].toNat ≤ 57) := hdg
        unfold digitB; exact decide_eq_false this
      rw [hdb, Bool.false_and]
      obtain ⟨D, hD⟩ : ∃ D : Int, IntKind.wrap .u8 ((t[i].toNat : Int) - 48) = D := ⟨_, rfl⟩
      have hD2 : 9 < D ∧ D < 256 := by rw [wrap_u8_mod] at hD; omega
      have w2 : IntKind.wrap .u64 D = D := wrap_u64 (by omega) (by omega)
      refine .inr ⟨rfl, .int .u64 u, .bool over, .int .i64 i, Q3400 ?_⟩
      simp [y3400, hlt, hD, w2, hD2.1]
theorem parseInt_V {l : List UInt8} (hl : l.length < 1000000000) (m : Mem) : LV CV (.call 34) [S l] m [] = some ⟨.ret, [.tuple #[.int .i64 (pint l).1, .int .i64 (pint l).2]], m, []⟩ := by
  refine R34 ?_
  unfold pint
  rw [lowT_eq]
  simp only
  have hcp := cutPrefix2_V l [45]
  simp only [List.length_singleton] at hcp
  generalize hlow : decide ([45] <+: l) = low at *
  generalize ht : (if [45] <+: l then l.drop 1 else l) = t at *
  have htl : t.length < 1000000000 := by
    rw [← ht]; split
    · simp; omega
    · exact hl
  cases t with
  | nil => simp [x34, hcp, pintT]
  | cons c r =>
    have hk : ∀ (mm : Mem), ((c :: r).all digitB = true ∧ ∃ u' : Nat, LV CV (.loop 3400) [undef, undef, S (c :: r), .bool low, .int .u64 (if low = true then 9223372036854775808 else 9223372036854775807), .int .u64 0, .bool false, .int .i64 (c :: r).length, .int .i64 0] mm [] =
        some ⟨.exit 0, [undef, undef, S (c :: r), .bool low, .int .u64 (if low = true then 9223372036854775808 else 9223372036854775807), .int .u64 u', .bool (decide ((if low = true then 9223372036854775808 else 9223372036854775807) < valD 0 (c :: r))), .int .i64 (c :: r).length, .int .i64 (c :: r).length], mm, []⟩ ∧ (decide ((if low = true then 9223372036854775808 else 9223372036854775807) < valD 0 (c :: r)) = false → u' = valD 0 (c :: r))) ∨
      ((c :: r).all digitB = false ∧ ∃ b e d, LV CV (.loop 3400) [undef, undef, S (c :: r), .bool low, .int .u64 (if low = true then 9223372036854775808 else 9223372036854775807), .int .u64 0, .bool false, .int .i64 (c :: r).length, .int .i64 0] mm [] =
        some ⟨.ret, [.int .i64 0, .int .i64 3, S (c :: r), .bool low, .int .u64 (if low = true then 9223372036854775808 else 9223372036854775807), b, e, .int .i64 (c :: r).length, d], mm, []⟩) := by
      intro mm
      have := pi_loop (c :: r) htl low (if low = true then 9223372036854775808 else 9223372036854775807) (by split <;> decide) (by split <;> decide) mm (c :: r).length 0 0 false (by omega) (Nat.zero_le _)
      cases low <;> simpa using this
    have hw64 : IntKind.wrap .u64 9223372036854775808 = 9223372036854775808 := wrap_u64 (by decide) (by decide)
    have h48 : ((c.toNat : Int) = 48) = (c = 48) := propext ⟨fun h => by
      have : c.toNat = (48 : UInt8).toNat := by
        show c.toNat = 48
        omega
      exact UInt8.toNat_inj.1 this, fun h => by subst h; rfl⟩
    rw [show pintT low (c :: r) l = if c = 48 ∧ l ≠ [48] then (0, 3) else if (c :: r).all digitB = true then (if low = true then (if valD 0 (c :: r) ≤ 9223372036854775808 then (-(valD 0 (c :: r) : Int), 0) else (0, 2)) else (if valD 0 (c :: r) ≤ 9223372036854775807 then ((valD 0 (c :: r) : Int), 0) else (0, 2))) else (0, 3) from rfl]
    by_cases hz : c = 48 ∧ l ≠ [48]
    · rw [if_pos hz]
      simp [x34, hcp, h48, hz]
    · rw [if_neg hz]
      rcases hk ⟨[], m.next, m.next, 0⟩ with ⟨a1, u', a2, a3⟩ | ⟨a1, b, e, d, a2⟩
      · rw [a1]
        simp only [if_true]
        simp only [List.length_cons, Int.natCast_add, Int.natCast_one] at a2
        cases low with
        | true =>
          simp only [if_true] at a2 a3 ⊢
          by_cases hv : valD 0 (c :: r) ≤ 9223372036854775808
          · have hv2 : ¬ 9223372036854775808 < valD 0 (c :: r) := by omega
            have hu := a3 (by simp [hv2])
            rw [if_pos hv]
            rw [decide_eq_false hv2, hu] at a2
            have wn : IntKind.wrap .i64 (IntKind.wrap .u64 (-(valD 0 (c :: r) : Int))) = -(valD 0 (c :: r) : Int) := by
              rw [wrap_i64_mod, wrap_u64_mod]
              split <;> omega
            by_cases h0 : c = 48
            · have hl48 : l = [48] := Decidable.not_not.1 fun e => hz ⟨h0, e⟩
              subst hl48
              simp at hlow
            · simp [x34, hcp, h48, h0, hw64, a2, wn]
          · have hv2 : 9223372036854775808 < valD 0 (c :: r) := by omega
            rw [if_neg hv]
            rw [decide_eq_true hv2] at a2
            by_cases h0 : c = 48
            · have hl48 : l = [48] := Decidable.not_not.1 fun e => hz ⟨h0, e⟩
              subst hl48
              simp at hlow
            · simp [x34, hcp, h48, h0, hw64, a2]
        | false =>
          simp only [Bool.false_eq_true, if_false] at a2 a3 ⊢
          by_cases hv : valD 0 (c :: r) ≤ 9223372036854775807
          · have hv2 : ¬ 9223372036854775807 < valD 0 (c :: r) := by omega
            have hu := a3 (by simp [hv2])
            rw [if_pos hv]
            rw [decide_eq_false hv2, hu] at a2
            have wn : IntKind.wrap .i64 (valD 0 (c :: r) : Int) = (valD 0 (c :: r) : Int) := wrap_i64 (by omega) (by omega)
            by_cases h0 : c = 48
            · have hl48 : l = [48] := Decidable.not_not.1 fun e => hz ⟨h0, e⟩
              subst hl48
              have hr : r = [] := by simp at ht; exact ht.2
              subst hr h0
              simp only [List.length_nil, Int.natCast_zero, Int.zero_add] at a2
              simp [x34, hcp, a2, wn]
            · simp [x34, hcp, h48, h0, a2, wn]
          · have hv2 : 9223372036854775807 < valD 0 (c :: r) := by omega
            rw [if_neg hv]
            rw [decide_eq_true hv2] at a2
            by_cases h0 : c = 48
            · have hl48 : l = [48] := Decidable.not_not.1 fun e => hz ⟨h0, e⟩
              subst hl48
              have hr : r = [] := by simp at ht; exact ht.2
              subst hr h0
              simp only [List.length_nil, Int.natCast_zero, Int.zero_add] at a2
              simp [x34, hcp, a2]
            · simp [x34, hcp, h48, h0, a2]
      · rw [a1]
        simp only [Bool.false_eq_true, if_false]
        simp only [List.length_cons, Int.natCast_add, Int.natCast_one] at a2
        have hl48 : c = 48 → l = [48] := fun h0 => Decidable.not_not.1 fun e => hz ⟨h0, e⟩
        cases low with
        | true =>
          simp only [if_true] at a2
          by_cases h0 : c = 48
          · have := hl48 h0
            subst this
            simp at hlow
          · simp [x34, hcp, h48, h0, hw64, a2]
        | false =>
          simp only [Bool.false_eq_true, if_false] at a2
          by_cases h0 : c = 48
          · have hl48' := hl48 h0
            subst hl48'
            have hr : r = [] := by simp at ht; exact ht.2
            subst hr h0
            simp only [List.length_nil, Int.natCast_zero, Int.zero_add] at a2
            simp [x34, hcp, a2]
          · simp [x34, hcp, h48, h0, a2]
end Go.Proofs.YtibklmjoepckdaaDoor.D
