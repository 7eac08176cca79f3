import Derived.Test.YtibklmjoepckdaaDoorK1
namespace Go.Proofs.YtibklmjoepckdaaDoor.D
open Go.RowKit
set_option linter.unusedVariables false
set_option linter.unusedSimpArgs false
/-! ### The document's small -/
theorem rsmall_loop (l : List UInt8) (hs : l.length < 1000000000) : ∀ (k i : Nat) (m : Mem) (v : Value), i + k = l.length → Own m v 1 ((small (l.take i)).map eb) →
    ∃ v' m', LV CV (.loop 4300) [S l, v, .int .i64 i] m [] = some ⟨.exit 0, [S l, v', .int .i64 l.length], m', []⟩ ∧ Own m' v' 1 ((small l).map eb) := by
  intro k
  induction k with
  | zero =>
    intro i m v hk ho
    obtain rfl : i = l.length := by omega
    rw [List.take_length] at ho
    exact ⟨v, m, Q4300 (by simp [y4300]), ho⟩
  | succ k ih =>
    intro i m v hk ho
    have hi : i < l.length := by omega
    have hb := l[i].toNat_lt
    have hw : IntKind.wrap .i64 ((i : Int) + 1) = (i : Int) + 1 := wrap_i64 (by omega) (by omega)
    have hsm : small (l.take (i + 1)) = small (l.take i) ++ [lowB l[i]] := by
      unfold small
      rw [List.take_add_one, List.getElem?_eq_getElem hi, Option.toList_some, List.map_append]; rfl
    have hln : (small (l.take i)).length = i := by simp [small]; omega
    obtain ⟨v1, m1, a1, a2, a3⟩ := ho.app1 (tt := true) (x := eb (lowB l[i])) rfl (b := 1) (by simp [hln]; omega) (by simp [hln]; omega)
    rw [← List.map_singleton, ← List.map_append, ← hsm] at a2
    obtain ⟨v', m', e1, e2⟩ := ih (i + 1) m1 v1 (by omega) a2
    simp only [Int.natCast_add, Int.natCast_one] at e1
    have hge : l[i]? = some l[i] := List.getElem?_eq_getElem hi
    refine ⟨v', m', Q4300 ?_, e2⟩
    simp only [eb] at a1
    by_cases h1 : 65 ≤ l[i].toNat
    · by_cases h2 : l[i].toNat ≤ 90
      · have hlow : ((lowB l[i]).toNat : Int) = (l[i].toNat : Int) + 32 := by unfold lowB; rw [if_pos ⟨h1, h2⟩, ofNat_toNat (by omega)]; omega
        have hw2 : IntKind.wrap .u8 ((l[i].toNat : Int) + 32) = (l[i].toNat : Int) + 32 := wrap_u8 (by omega) (by omega)
        have g1 : (65 : Int) ≤ l[i].toNat := by omega
        have g2 : (l[i].toNat : Int) ≤ 90 := by omega
        rw [hlow] at a1
        simp [y4300, hi, hge, g1, g2, hw, hw2, a1, e1]
      · have hlow : lowB l[i] = l[i] := by unfold lowB; rw [if_neg (by omega)]
        have g1 : (65 : Int) ≤ l[i].toNat := by omega
        have g2 : ¬ (l[i].toNat : Int) ≤ 90 := by omega
        rw [hlow] at a1
        simp [y4300, hi, hge, g1, g2, hw, a1, e1]
    · have hlow : lowB l[i] = l[i] := by unfold lowB; rw [if_neg (by omega)]
      have g1 : ¬ (65 : Int) ≤ l[i].toNat := by omega
      rw [hlow] at a1
      simp [y4300, hi, hge, g1, hw, a1, e1]
@[simp] theorem rsmall_V {l : List UInt8} (h : l.length < 1000000000) (m : Mem) : LV CV (.call 43) [S l] m [] = some ⟨.ret, [S (small l)], m, []⟩ := by
  refine R43 ?_
  obtain ⟨v', m', e1, e2⟩ := rsmall_loop l h l.length 0 ⟨[], m.next, m.next, 0⟩ (.slice none 0 0) (by omega) (by simpa [small] using Own.nil (Nat.le_refl _))
  simp only [Int.natCast_zero] at e1
  simp [x43, e1, e2.str]
/-! ### Words -/
theorem one_loop (t : List UInt8) (ws : List (List UInt8)) (tt : Bool) (hn : ws.length < 1000000000) (ht : t.length < 1000000000) (m : Mem) : ∀ (rest : List (List UInt8)) (i : Nat) (a : Int), ws.drop i = rest → i + rest.length = ws.length →
    (∃ b, LV CV (.loop 3000) [S t, .int .i64 a, fz 1 tt (ws.map es), .int .i64 ws.length, .int .i64 i] m [] = some ⟨.ret, [S t, .int .i64 (oneL t i a rest), fz 1 tt (ws.map es), .int .i64 ws.length, b], m, []⟩) ∨
    (∃ b a', LV CV (.loop 3000) [S t, .int .i64 a, fz 1 tt (ws.map es), .int .i64 ws.length, .int .i64 i] m [] = some ⟨.exit 0, [S t, .int .i64 a', fz 1 tt (ws.map es), .int .i64 ws.length, b], m, []⟩ ∧ oneL t i a rest = max a' 0) := by
  intro rest
  induction rest with
  | nil =>
    intro i a hd hl
    obtain rfl : i = ws.length := by simpa using hl
    exact .inr ⟨_, a, Q3000 (by simp [y3000]; rfl), rfl⟩
  | cons w r ih =>
    intro i a hd hl
    simp only [List.length_cons] at hl
    have hi : i < ws.length := by omega
    have hge : ws[i]? = some w := by
      have := congrArg (·[0]?) hd
      simpa using this
    have hgw : ws[i] = w := by rw [List.getElem?_eq_getElem hi] at hge; exact Option.some.inj hge
    have hd2 : ws.drop (i + 1) = r := by
      have := congrArg (·.drop 1) hd
      simpa using this
    have hw : IntKind.wrap .i64 ((i : Int) + 1) = (i : Int) + 1 := wrap_i64 (by omega) (by omega)
    unfold oneL
    by_cases h1 : w = t
    · rw [if_pos h1]
      exact .inl ⟨.int .i64 i, Q3000 (by simp [y3000, hi, hgw, h1, hw])⟩
    · rw [if_neg h1]
      by_cases h2 : t <+: w
      · rw [if_pos h2]
        have hi2 := ih (i + 1) (if a ≠ 0 then -1 else (i : Int) + 1) hd2 (by omega)
        rw [Int.natCast_add, Int.natCast_one] at hi2
        by_cases h3 : a = 0
        · simp only [h3, ne_eq, not_true_eq_false, if_false] at hi2 ⊢
          rcases hi2 with ⟨b, e⟩ | ⟨b, a', e, e2⟩
          · exact .inl ⟨b, Q3000 (by simp [y3000, hi, hgw, h1, h2, hw, e])⟩
          · exact .inr ⟨b, a', Q3000 (by simp [y3000, hi, hgw, h1, h2, hw, e]), e2⟩
        · simp only [h3, ne_eq, not_false_eq_true, if_true] at hi2 ⊢
          rcases hi2 with ⟨b, e⟩ | ⟨b, a', e, e2⟩
          · exact .inl ⟨b, Q3000 (by simp [y3000, hi, hgw, h1, h2, h3, hw, e])⟩
          · exact .inr ⟨b, a', Q3000 (by simp [y3000, hi, hgw, h1, h2, h3, hw, e]), e2⟩
      · rw [if_neg h2]
        have hi2 := ih (i + 1) a hd2 (by omega)
        rw [Int.natCast_add, Int.natCast_one] at hi2
        rcases hi2 with ⟨b, e⟩ | ⟨b, a', e, e2⟩
        · exact .inl ⟨b, Q3000 (by simp [y3000, hi, hgw, h1, h2, hw, e])⟩
        · exact .inr ⟨b, a', Q3000 (by simp [y3000, hi, hgw, h1, h2, hw, e]), e2⟩
theorem small_len (l : List UInt8) : (small l).length = l.length := by simp [small]
theorem one_V {s : List UInt8} {ws : List (List UInt8)} (tt : Bool) (hn : ws.length < 1000000000) (hs : s.length < 1000000000) (m : Mem) : LV CV (.call 30) [S s, fz 1 tt (ws.map es)] m [] = some ⟨.ret, [.int .i64 (oneW s ws)], m, []⟩ := by
  refine R30 ?_
  unfold oneW
  have h4 : s.length < 4611686018427387904 := by omega
  by_cases h0 : small s = []
  · simp [x30, small_V h4, h0]
  · have hl := oneL_le (small s) ws 0 0 (by omega) (by omega)
    rcases one_loop (small s) ws tt hn (by rw [small_len]; exact hs) ⟨[], m.next, m.next, 0⟩ ws 0 0 rfl (by omega) with ⟨b, e⟩ | ⟨b, a', e, e2⟩
    · simp only [Int.natCast_zero] at e
      simp [x30, small_V h4, h0, e]
    · simp only [Int.natCast_zero] at e
      have hmax : aMax true [.int .i64 a', .int .i64 0] = some (.int .i64 (max a' 0)) := by
        simp [aMax]
        omega
      simp [x30, small_V h4, h0, e, hmax, e2]
theorem find_loop (t : List UInt8) (ht0 : t ≠ []) (ws : List (List UInt8)) (tt : Bool) (hn : ws.length < 1000000000) (ht : t.length < 1000000000) (m : Mem) : ∀ (rest : List (List UInt8)) (i : Nat) (r0 : Value) (a : Int) (n : Nat), ws.drop i = rest → i + rest.length = ws.length → n ≤ i →
    (∃ b c d, LV CV (.loop 3100) [S t, fz 1 tt (ws.map es), r0, .int .i64 a, .int .i64 n, .int .i64 i] m [] = some ⟨.ret, [S t, fz 1 tt (ws.map es), .int .i64 (findL t i a n rest), b, c, d], m, []⟩) ∨
    (∃ b a' n', LV CV (.loop 3100) [S t, fz 1 tt (ws.map es), r0, .int .i64 a, .int .i64 n, .int .i64 i] m [] = some ⟨.exit 0, [S t, fz 1 tt (ws.map es), r0, .int .i64 a', .int .i64 n', b], m, []⟩ ∧ findL t i a n rest = if n' = (1 : Int) then a' else 0) := by
  intro rest
  induction rest with
  | nil =>
    intro i r0 a n hd hl hni
    obtain rfl : i = ws.length := by simpa using hl
    refine .inr ⟨_, a, n, Q3100 (by simp [y3100]; rfl), ?_⟩
    unfold findL
    by_cases h : n = 1
    · rw [if_pos h, if_pos (by omega)]
    · rw [if_neg h, if_neg (by omega)]
  | cons w r ih =>
    intro i r0 a n hd hl hni
    simp only [List.length_cons] at hl
    have hi : i < ws.length := by omega
    have hge : ws[i]? = some w := by
      have := congrArg (·[0]?) hd
      simpa using this
    have hgw : ws[i] = w := by rw [List.getElem?_eq_getElem hi] at hge; exact Option.some.inj hge
    have hd2 : ws.drop (i + 1) = r := by
      have := congrArg (·.drop 1) hd
      simpa using this
    have hw : IntKind.wrap .i64 ((i : Int) + 1) = (i : Int) + 1 := wrap_i64 (by omega) (by omega)
    have hwn : IntKind.wrap .i64 ((n : Int) + 1) = (n : Int) + 1 := wrap_i64 (by omega) (by omega)
    unfold findL
    by_cases h2 : t <+: w
    · have hle := h2.length_le
      have htk : w.take t.length = t := (List.prefix_iff_eq_take.1 h2).symm
      rw [if_pos h2]
      by_cases h1 : w = t
      · rw [if_pos h1]
        subst h1
        refine .inl ⟨.int .i64 a, .int .i64 n, .int .i64 i, Q3100 ?_⟩
        simp [y3100, hi, hgw, ht0, hw]
      · rw [if_neg h1]
        have hlt : t.length ≠ w.length := fun e => h1 (by rw [e, List.take_length] at htk; exact htk)
        have hlt2 : ¬ (t.length : Int) = w.length := by omega
        have hi2 := ih (i + 1) r0 ((i : Int) + 1) (n + 1) hd2 (by omega) (by omega)
        rw [Int.natCast_add, Int.natCast_one, Int.natCast_add, Int.natCast_one] at hi2
        have hnl : ¬ (w.length : Int) < t.length := by omega
        rcases hi2 with ⟨b, c, d, e⟩ | ⟨b, a', n', e, e2⟩
        · exact .inl ⟨b, c, d, Q3100 (by simp [y3100, hi, hgw, ht0, hnl, hle, htk, hlt, hlt2, hw, hwn, e])⟩
        · exact .inr ⟨b, a', n', Q3100 (by simp [y3100, hi, hgw, ht0, hnl, hle, htk, hlt, hlt2, hw, hwn, e]), e2⟩
    · rw [if_neg h2]
      have hi2 := ih (i + 1) r0 a n hd2 (by omega) (by omega)
      rw [Int.natCast_add, Int.natCast_one] at hi2
      by_cases hle : t.length ≤ w.length
      · have htk : w.take t.length ≠ t := fun e => h2 (List.prefix_iff_eq_take.2 e.symm)
        have hnl : ¬ (w.length : Int) < t.length := by omega
        rcases hi2 with ⟨b, c, d, e⟩ | ⟨b, a', n', e, e2⟩
        · exact .inl ⟨b, c, d, Q3100 (by simp [y3100, hi, hgw, ht0, hnl, hle, htk, hw, e])⟩
        · exact .inr ⟨b, a', n', Q3100 (by simp [y3100, hi, hgw, ht0, hnl, hle, htk, hw, e]), e2⟩
      · have hnl : (w.length : Int) < t.length := by omega
        rcases hi2 with ⟨b, c, d, e⟩ | ⟨b, a', n', e, e2⟩
        · exact .inl ⟨b, c, d, Q3100 (by simp [y3100, hi, hgw, ht0, hnl, hw, e])⟩
        · exact .inr ⟨b, a', n', Q3100 (by simp [y3100, hi, hgw, ht0, hnl, hw, e]), e2⟩
end Go.Proofs.YtibklmjoepckdaaDoor.D
