import Derived.Test.YtibklmjoepckdaaDoorK8
import Derived.Test.YtibklmjoepckdaaDoorK6
namespace Go.Proofs.YtibklmjoepckdaaDoor.D
open Go.RowKit
set_option linter.unusedVariables false
set_option linter.unusedSimpArgs false
theorem rp_loop (t : List UInt8) (ht : t.length < 1000000000) (b0 b1 low : Value) (m : Mem) : ∀ (k i : Nat), i + k = t.length →
    if (t.drop i).all digitB = true then LV CV (.loop 3600) [b0, b1, S t, low, .int .i64 i] m [] = some ⟨.exit 0, [b0, b1, S t, low, .int .i64 t.length], m, []⟩
    else ∃ x, LV CV (.loop 3600) [b0, b1, S t, low, .int .i64 i] m [] = some ⟨.ret, [.int .i64 0, .int .i64 3, S t, low, x], m, []⟩ := by
  intro k
  induction k with
  | zero =>
    intro i hi
    obtain rfl : i = t.length := by omega
    rw [List.drop_length, if_pos (show ([] : List UInt8).all digitB = true from rfl)]
    exact Q3600 (by simp [y3600])
  | succ k ih =>
    intro i hi
    have hlt : i < t.length := by omega
    have hw : IntKind.wrap .i64 ((i : Int) + 1) = (i : Int) + 1 := wrap_i64 (by omega) (by omega)
    have hd : t.drop i = t[i] :: t.drop (i + 1) := List.drop_eq_getElem_cons hlt
    have hi2 := ih (i + 1) (by omega)
    rw [Int.natCast_add, Int.natCast_one] at hi2
    rw [hd, List.all_cons]
    have c1 : ((t[i].toNat : Int) < 48) = (t[i].toNat < 48) := propext (by omega)
    have c2 : ((57 : Int) < t[i].toNat) = (57 < t[i].toNat) := propext (by omega)
    by_cases h1 : t[i].toNat < 48
    · have hb : digitB t[i] = false := by unfold digitB; exact decide_eq_false (by omega)
      rw [hb, Bool.false_and, if_neg (by decide)]
      exact ⟨_, Q3600 (by simp [y3600, hlt, c1, h1]; rfl)⟩
    · by_cases h2 : 57 < t[i].toNat
      · have hb : digitB t[i] = false := by unfold digitB; exact decide_eq_false (by omega)
        rw [hb, Bool.false_and, if_neg (by decide)]
        exact ⟨_, Q3600 (by simp [y3600, hlt, c1, h1, c2, h2]; rfl)⟩
      · have hb : digitB t[i] = true := by unfold digitB; exact decide_eq_true (by omega)
        rw [hb, Bool.true_and]
        split
        · rename_i ha
          rw [if_pos ha] at hi2
          exact Q3600 (by simp [y3600, hlt, c1, h1, c2, h2, hw, hi2])
        · rename_i ha
          rw [if_neg ha] at hi2
          obtain ⟨x, e⟩ := hi2
          exact ⟨x, Q3600 (by simp [y3600, hlt, c1, h1, c2, h2, hw, e])⟩
theorem rq_loop (t : List UInt8) (ht : t.length < 1000000000) (hd : t.all digitB = true) (b0 b1 low : Value) (m : Mem) : ∀ (k i u : Nat), i + k = t.length → u ≤ 9223372036854775808 →
    if valD u (t.drop i) ≤ 9223372036854775808 then LV CV (.loop 3601) [b0, b1, S t, low, .int .i64 (-(u : Int)), .int .i64 i] m [] = some ⟨.exit 2, [b0, b1, S t, low, .int .i64 (-(valD u (t.drop i) : Int)), .int .i64 t.length], m, []⟩
    else ∃ x y, LV CV (.loop 3601) [b0, b1, S t, low, .int .i64 (-(u : Int)), .int .i64 i] m [] = some ⟨.ret, [.int .i64 0, .int .i64 2, S t, low, x, y], m, []⟩ := by
  intro k
  induction k with
  | zero =>
    intro i u hi hu
    obtain rfl : i = t.length := by omega
    rw [List.drop_length, if_pos (show valD u [] ≤ _ from hu)]
    refine Q3601 ?_
    have : valD u [] = u := rfl
    simp [y3601, this]
  | succ k ih =>
    intro i u hi hu
    have hlt : i < t.length := by omega
    have hw : IntKind.wrap .i64 ((i : Int) + 1) = (i : Int) + 1 := wrap_i64 (by omega) (by omega)
    have hdr : t.drop i = t[i] :: t.drop (i + 1) := List.drop_eq_getElem_cons hlt
    have hdg : 48 ≤ t[i].toNat ∧ t[i].toNat ≤ 57 := by
      have := List.all_eq_true.1 hd t[i] (List.getElem_mem hlt)
      simpa [digitB] using this
    rw [hdr, valD_cons]
    have hi2 := fun (h : u * 10 + (t[i].toNat - 48) ≤ 9223372036854775808) => ih (i + 1) (u * 10 + (t[i].toNat - 48)) (by omega) h
    rw [Int.natCast_add i, Int.natCast_one] at hi2
    generalize hD : t[i].toNat - 48 = D at *
    have e0 : (t[i].toNat : Int) - 48 = D := by omega
    have w1 : IntKind.wrap .u8 (D : Int) = D := wrap_u8 (by omega) (by omega)
    have w2 : IntKind.wrap .i64 (D : Int) = D := wrap_i64 (by omega) (by omega)
    have w3 : IntKind.wrap .i64 (-9223372036854775808 + (D : Int)) = -9223372036854775808 + (D : Int) := wrap_i64 (by omega) (by omega)
    have q1 : (-9223372036854775808 + (D : Int)).tdiv 10 = -((9223372036854775808 - (D : Int)) / 10) := by
      rw [show -9223372036854775808 + (D : Int) = -(9223372036854775808 - (D : Int)) by omega, Int.neg_tdiv, Int.tdiv_eq_ediv_of_nonneg (by omega)]
    have w4 : IntKind.wrap .i64 (-((9223372036854775808 - (D : Int)) / 10)) = -((9223372036854775808 - (D : Int)) / 10) := wrap_i64 (by omega) (by omega)
    generalize hQ : (9223372036854775808 - (D : Int)) / 10 = Q at *
    by_cases hov : 9223372036854775808 < u * 10 + D
    · have hc : Q < (u : Int) := by omega
      have hbig : ¬ valD (u * 10 + D) (t.drop (i + 1)) ≤ 9223372036854775808 := by
        have := valD_mono (t.drop (i + 1)) (u * 10 + D)
        omega
      rw [if_neg hbig]
      exact ⟨_, _, Q3601 (by simp [y3601, hlt, e0, w1, w2, w3, q1, w4, hc]; exact ⟨rfl, rfl⟩)⟩
    · have hc : ¬ Q < (u : Int) := by omega
      have w5 : IntKind.wrap .i64 (-(u : Int) * 10) = -((u : Int) * 10) := by rw [wrap_i64 (by omega) (by omega)]; omega
      have w6 : IntKind.wrap .i64 (-((u : Int) * 10) - D) = -((u * 10 + D : Nat) : Int) := by rw [wrap_i64 (by omega) (by omega)]; omega
      have hi3 := hi2 (by omega)
      split
      · rename_i hv
        rw [if_pos hv] at hi3
        generalize u * 10 + D = N at *
        exact Q3601 (by simp [y3601, hlt, e0, w1, w2, w3, q1, w4, w5, w6, hw, hc, hi3])
      · rename_i hv
        rw [if_neg hv] at hi3
        obtain ⟨x, y, e⟩ := hi3
        generalize u * 10 + D = N at *
        exact ⟨x, y, Q3601 (by simp [y3601, hlt, e0, w1, w2, w3, q1, w4, w5, w6, hw, hc, e])⟩
/-- The walk behind the first byte. -/
theorem rp_both (t : List UInt8) (ht : t.length < 1000000000) (low : Bool) (m : Mem) :
    (t.all digitB = false ∧ ∃ x, LV CV (.loop 3600) [undef, undef, S t, .bool low, .int .i64 0] m [] = some ⟨.ret, [.int .i64 0, .int .i64 3, S t, .bool low, x], m, []⟩) ∨
    (t.all digitB = true ∧ (LV CV (.loop 3600) [undef, undef, S t, .bool low, .int .i64 0] m [] = some ⟨.exit 0, [undef, undef, S t, .bool low, .int .i64 t.length], m, []⟩) ∧
      ((valD 0 t ≤ 9223372036854775808 ∧ LV CV (.loop 3601) [undef, undef, S t, .bool low, .int .i64 0, .int .i64 0] m [] = some ⟨.exit 2, [undef, undef, S t, .bool low, .int .i64 (-(valD 0 t : Int)), .int .i64 t.length], m, []⟩) ∨
       (¬ valD 0 t ≤ 9223372036854775808 ∧ ∃ x y, LV CV (.loop 3601) [undef, undef, S t, .bool low, .int .i64 0, .int .i64 0] m [] = some ⟨.ret, [.int .i64 0, .int .i64 2, S t, .bool low, x, y], m, []⟩))) := by
  have h := rp_loop t ht undef undef (.bool low) m t.length 0 (by omega)
  simp only [List.drop_zero, Int.natCast_zero] at h
  cases hd : t.all digitB with
  | false =>
    rw [hd, if_neg (by decide)] at h
    exact .inl ⟨rfl, h⟩
  | true =>
    rw [hd, if_pos rfl] at h
    refine .inr ⟨rfl, h, ?_⟩
    have h2 := rq_loop t ht hd undef undef (.bool low) m t.length 0 0 (by omega) (by omega)
    simp only [List.drop_zero, Int.natCast_zero, Int.neg_zero] at h2
    by_cases hv : valD 0 t ≤ 9223372036854775808
    · rw [if_pos hv] at h2; exact .inl ⟨hv, h2⟩
    · rw [if_neg hv] at h2; exact .inr ⟨hv, h2⟩
theorem long_big {c : UInt8} {r : List UInt8} (hd : (c :: r).all digitB = true) (hc : c ≠ 48) (hl : 19 < (c :: r).length) : ¬ valD 0 (c :: r) ≤ 9223372036854775808 := by
  have h1 := valD_ge r (0 * 10 + (c.toNat - 48))
  rw [← valD_cons] at h1
  simp only [List.all_cons, Bool.and_eq_true] at hd
  have h2 : 48 ≤ c.toNat ∧ c.toNat ≤ 57 := by simpa [digitB] using hd.1
  have h3 : c.toNat ≠ 48 := fun e => hc (UInt8.toNat_inj.1 (by rw [e]; rfl))
  have h4 : 10 ^ 19 ≤ 10 ^ r.length := Nat.pow_le_pow_right (by decide) (by simp at hl; omega)
  have h5 : 1 * 10 ^ r.length ≤ (0 * 10 + (c.toNat - 48)) * 10 ^ r.length := Nat.mul_le_mul_right _ (by omega)
  generalize 10 ^ r.length = p at *
  generalize (0 * 10 + (c.toNat - 48)) * p = q at *
  have h6 : (10 : Nat) ^ 19 = 10000000000000000000 := by decide
  omega
theorem rparse_V {l : List UInt8} (hl : l.length < 1000000000) (m : Mem) : LV CV (.call 36) [S l] m [] = some ⟨.ret, [.tuple #[.int .i64 (pint l).1, .int .i64 (pint l).2]], m, []⟩ := by
  refine R36 ?_
  unfold pint
  rw [lowT_eq]
  cases l with
  | nil => simp [x36, pintT]
  | cons c r =>
    have e45 : ((c.toNat : Int) = 45) = (c = 45) := eqK c 45 (by decide)
    have e48 : ((c.toNat : Int) = 48) = (c = 48) := eqK c 48 (by decide)
    have hpos : (0 : Int) < (r.length : Int) + 1 := by omega
    by_cases h45 : c = 45
    · subst h45
      have hp : ([45] <+: (45 :: r)) = True := by simp
      simp only [hp, decide_true, if_true, List.drop_succ_cons, List.drop_zero]
      cases r with
      | nil => simp [x36, pintT]
      | cons d q =>
        have e48 : ((d.toNat : Int) = 48) = (d = 48) := eqK d 48 (by decide)
        have hpos : (0 : Int) < (q.length : Int) + 1 + 1 := by omega
        have hn0 : ¬ ((q.length : Int) + 1 = 0) := by omega
        have hc1 : (1 : Int) ≤ (q.length : Int) + 1 + 1 := by omega
        have ht : (d :: q).length < 1000000000 := by simp at hl ⊢; omega
        by_cases h48 : d = 48
        · subst h48
          simp [x36, pintT, hn0, hc1]
          split
          · simp
          · rename_i hx
            exact absurd hpos hx
        · rw [show pintT true (d :: q) (45 :: d :: q) = if d = 48 ∧ (45 :: d :: q) ≠ [48] then (0, 3) else if (d :: q).all digitB = true then (if valD 0 (d :: q) ≤ 9223372036854775808 then (-(valD 0 (d :: q) : Int), 0) else (0, 2)) else (0, 3) from rfl, if_neg (fun e => h48 e.1)]
          rcases rp_both (d :: q) ht true ⟨[], m.next, m.next, 0⟩ with ⟨a1, x, a2⟩ | ⟨a1, a2, a3⟩
          · rw [a1]
            simp [x36, hpos, hn0, hc1, e48, h48, a2]
          · rw [a1, if_pos rfl]
            simp only [List.length_cons, Int.natCast_add, Int.natCast_one] at a2 a3
            by_cases hlen : (19 : Int) < (q.length : Int) + 1
            · have hb := long_big a1 h48 (by simp; omega)
              rw [if_neg hb]
              simp [x36, hpos, hn0, hc1, e48, h48, a2, hlen]
            · rcases a3 with ⟨b1, b2⟩ | ⟨b1, x, y, b2⟩
              · rw [if_pos b1]
                simp [x36, hpos, hn0, hc1, e48, h48, a2, hlen, b2]
              · rw [if_neg b1]
                simp [x36, hpos, hn0, hc1, e48, h48, a2, hlen, b2]
    · have hp : ([45] <+: (c :: r)) = False := by simp [Ne.symm h45]
      simp only [hp, decide_false, if_false]
      have hn0 : ¬ ((r.length : Int) + 1 = 0) := by omega
      by_cases hz : c = 48 ∧ r ≠ []
      · obtain ⟨h48, hr⟩ := hz
        subst h48
        have hlr : (1 : Int) < (r.length : Int) + 1 := by
          have := List.length_pos_iff.2 hr
          omega
        have hr2 : pintT false (48 :: r) (48 :: r) = (0, 3) := by
          show (if (48 : UInt8) = 48 ∧ (48 :: r) ≠ [48] then ((0 : Int), (3 : Int)) else _) = _
          rw [if_pos ⟨rfl, by simpa using hr⟩]
        rw [hr2]
        simp [x36, hpos, hn0, hlr]
      · have hnz : ¬ (c = 48 ∧ (c :: r) ≠ [48]) := fun ⟨h1, h2⟩ => hz ⟨h1, fun e => h2 (by rw [h1, e])⟩
        rw [show pintT false (c :: r) (c :: r) = if c = 48 ∧ (c :: r) ≠ [48] then (0, 3) else if (c :: r).all digitB = true then (if valD 0 (c :: r) ≤ 9223372036854775807 then ((valD 0 (c :: r) : Int), 0) else (0, 2)) else (0, 3) from rfl, if_neg hnz]
        by_cases h48 : c = 48
        · have hr : r = [] := Decidable.not_not.1 fun e => hz ⟨h48, e⟩
          subst h48 hr
          rcases rp_both [48] (by decide) false ⟨[], m.next, m.next, 0⟩ with ⟨a1, x, a2⟩ | ⟨a1, a2, a3⟩
          · exact absurd a1 (by decide)
          · rcases a3 with ⟨b1, b2⟩ | ⟨b1, x, y, b2⟩
            · have hv : valD 0 [48] = 0 := by decide
              rw [hv] at b2
              simp only [List.length_cons, List.length_nil, Int.natCast_zero, Int.zero_add, Int.natCast_one, Nat.zero_add] at a2 b2
              have w0 : IntKind.wrap .i64 0 = 0 := by decide
              simp [x36, a2, b2, hv, digitB, w0]
            · exact absurd (show valD 0 [48] ≤ 9223372036854775808 by decide) b1
        · rcases rp_both (c :: r) hl false ⟨[], m.next, m.next, 0⟩ with ⟨a1, x, a2⟩ | ⟨a1, a2, a3⟩
          · rw [a1]
            simp [x36, hpos, hn0, e45, h45, e48, h48, a2]
          · rw [a1, if_pos rfl]
            simp only [List.length_cons, Int.natCast_add, Int.natCast_one] at a2 a3
            by_cases hlen : (19 : Int) < (r.length : Int) + 1
            · have hb := long_big a1 h48 (by simp; omega)
              rw [if_neg (by omega)]
              simp [x36, hpos, hn0, e45, h45, e48, h48, a2, hlen]
            · rcases a3 with ⟨b1, b2⟩ | ⟨b1, x, y, b2⟩
              · by_cases hv : valD 0 (c :: r) ≤ 9223372036854775807
                · rw [if_pos hv]
                  have hv1 : ¬ (9223372036854775807 : Int) < (valD 0 (c :: r) : Int) := by omega
                  have hw : IntKind.wrap .i64 (valD 0 (c :: r) : Int) = (valD 0 (c :: r) : Int) := wrap_i64 (by omega) (by omega)
                  simp [x36, hpos, hn0, e45, h45, e48, h48, a2, hlen, b2, hv1, hw]
                · rw [if_neg hv]
                  have hv1 : (9223372036854775807 : Int) < (valD 0 (c :: r) : Int) := by omega
                  simp [x36, hpos, hn0, e45, h45, e48, h48, a2, hlen, b2, hv1]
              · rw [if_neg (by omega)]
                simp [x36, hpos, hn0, e45, h45, e48, h48, a2, hlen, b2]
end Go.Proofs.YtibklmjoepckdaaDoor.D
