import Derived.Test.YthihiidooomdnaaFj
import Derived.Test.YthihiidooomdnaaWs
namespace Go.Proofs.Ythihiidooomdnaa.D
open Go.RowKit
set_option linter.unusedVariables false
set_option linter.unusedSimpArgs false
theorem pow5 {a : Nat} (h : a ≤ 5) : (10 : Int) ^ a ≤ 100000 := by
  have := Nat.pow_le_pow_right (n := 10) (by decide) h
  have e : ((10 ^ a : Nat) : Int) = (10 : Int) ^ a := by simp
  omega
theorem first_loop {m : Mem} {b : Value} {xs : List Int} (hb : By m b xs) (hx : ∀ c ∈ xs, 0 ≤ c ∧ c ≤ 255) (hxl : xs.length ≤ 4000000) : ∀ (k a : Nat) (n : Int), a + k = xs.length → a ≤ 5 → 0 ≤ n → n < 10 ^ a →
    L (CC gv1) (.loop 1500) [b, .int .i64 0, .int .i64 0, .slice none 0 0, .int .i64 n, .int .i64 a] m [] =
      some (if (scan (xs.drop a) n a).1 = true then ⟨.ret, [b, .int .i64 2, .int .i64 (scan (xs.drop a) n a).2.2, .slice none 0 0, .int .i64 (scan (xs.drop a) n a).2.1, .int .i64 (scan (xs.drop a) n a).2.2], m, []⟩
        else ⟨.exit 0, [b, .int .i64 0, .int .i64 0, .slice none 0 0, .int .i64 (scan (xs.drop a) n a).2.1, .int .i64 (scan (xs.drop a) n a).2.2], m, []⟩) := by
  intro k
  induction k with
  | zero =>
    intro a n ha h5 h0 hn
    obtain rfl : a = xs.length := by omega
    refine Q1500 gv1 ?_
    simp [y1500, hb.len, scan]
  | succ k ih =>
    intro a n ha h5 h0 hn
    have hxa : a < xs.length := by omega
    have hp := pow5 h5
    obtain ⟨o, off, p1, p2⟩ := hb.byte (List.getElem?_eq_getElem hxa) .i64
    obtain ⟨c0, c1⟩ := hx xs[a] (List.getElem_mem hxa)
    have hd : xs.drop a = xs[a] :: xs.drop (a + 1) := List.drop_eq_getElem_cons hxa
    generalize hc : xs[a] = c at *
    refine Q1500 gv1 ?_
    by_cases g1 : 48 ≤ c ∧ c ≤ 57
    · by_cases g2 : a = 5 ∨ (0 < a ∧ n = 0)
      · have es : scan (xs.drop a) n a = (true, n, a) := by rw [hd]; unfold scan; rw [if_pos g1, if_pos g2]
        rw [es]
        by_cases e5 : (a : Int) = 5
        · have p1' := p1
          rw [e5] at p1'
          have hx5 : (5 : Int) < xs.length := by omega
          simp [y1500, hb.len, hx5, p1', p2, g1, e5]
        · rcases g2 with rfl | ⟨g2, rfl⟩
          · exact absurd rfl e5
          · simp [y1500, hb.len, hxa, p1, p2, g1, g2, e5]
      · have es : scan (xs.drop a) n a = scan (xs.drop (a + 1)) (n * 10 + (c - 48)) (a + 1) := by
          rw [hd]
          show (if 48 ≤ c ∧ c ≤ 57 then (if a = 5 ∨ (0 < a ∧ n = 0) then (true, n, a) else scan (xs.drop (a + 1)) (n * 10 + (c - 48)) (a + 1)) else (false, n, a)) = _
          rw [if_pos g1, if_neg g2]
        have h5' : a ≠ 5 := fun e => g2 (.inl e)
        have g3 : ¬ (a : Int) = 5 := by omega
        have hpow : n * 10 + (c - 48) < 10 ^ (a + 1) := by rw [Int.pow_succ]; omega
        have hi := ih (a + 1) (n * 10 + (c - 48)) (by omega) (by omega) (by omega) hpow
        rw [Int.natCast_add] at hi
        simp only [Int.natCast_one] at hi
        have w1 : IntKind.wrap .i64 (n * 10) = n * 10 := wrap_i64 (by omega) (by omega)
        have w2 : IntKind.wrap .u8 (c - 48) = c - 48 := wrap_u8 (by omega) (by omega)
        have w3 : IntKind.wrap .i64 (c - 48) = c - 48 := wrap_i64 (by omega) (by omega)
        have w4 : IntKind.wrap .i64 (n * 10 + (c - 48)) = n * 10 + (c - 48) := wrap_i64 (by omega) (by omega)
        have w5 : IntKind.wrap .i64 ((a : Int) + 1) = (a : Int) + 1 := wrap_i64 (by omega) (by omega)
        rw [es]
        by_cases g4 : 0 < a
        · have hn0 : n ≠ 0 := fun e => g2 (.inr ⟨g4, e⟩)
          simp [y1500, hb.len, hxa, p1, p2, g1, g3, g4, hn0, w1, w2, w3, w4, w5, hi]
        · simp [y1500, hb.len, hxa, p1, p2, g1, g3, g4, w1, w2, w3, w4, w5, hi]
    · have es : scan (xs.drop a) n a = (false, n, a) := by rw [hd]; unfold scan; rw [if_neg g1]
      rw [es]
      by_cases g48 : 48 ≤ c
      · have g57 : ¬ c ≤ 57 := fun e => g1 ⟨g48, e⟩
        simp [y1500, hb.len, hxa, p1, p2, g48, g57]
      · simp [y1500, hb.len, hxa, p1, p2, g48]
theorem scan_bound (t : List Int) : ∀ (n : Int) (a : Nat), a ≤ 5 → 0 ≤ n → n < 10 ^ a → (scan t n a).2.1 ≤ 99999 ∧ (scan t n a).2.2 ≤ 5 ∧ (scan t n a).2.2 ≤ a + t.length := by
  induction t with
  | nil => intro n a h5 h0 hn; have := pow5 h5; exact ⟨by simp only [scan]; omega, h5, by simp [scan]⟩
  | cons c t ih =>
    intro n a h5 h0 hn
    have hp := pow5 h5
    unfold scan
    split
    · rename_i g1
      split
      · exact ⟨by simp only; omega, h5, by simp⟩
      · rename_i g2
        have hpow : n * 10 + (c - 48) < 10 ^ (a + 1) := by rw [Int.pow_succ]; omega
        obtain ⟨q1, q2, q3⟩ := ih (n * 10 + (c - 48)) (a + 1) (by omega) (by omega) hpow
        exact ⟨q1, q2, by simp only [List.length_cons]; omega⟩
    · exact ⟨by simp only; omega, h5, by simp⟩
theorem first_run {m0 m : Mem} {b : Value} {xs : List Int} (hb0 : By m0 b xs) (hg : GeN m0.next m0 m) (hx : ∀ c ∈ xs, 0 ≤ c ∧ c ≤ 255) (hxl : xs.length ≤ 4000000) :
    ∃ v, L (CC gv1) (.call 15) [b] m [] = some ⟨.ret, [.tuple #[.int .i64 (first xs).1, .int .i64 (first xs).2.1, v]], m, []⟩ ∧ By m0 v (first xs).2.2 := by
  have hb := hb0.mono hg.ge
  have hl := first_loop hb hx hxl xs.length 0 0 (by omega) (by omega) (Int.le_refl _) (by simp)
  obtain ⟨s1, s2, s3⟩ := scan_bound xs 0 0 (by omega) (Int.le_refl _) (by simp)
  have s0 := scan_nonneg xs 0 0 (Int.le_refl _)
  simp only [List.drop_zero, Int.natCast_zero] at hl
  unfold first
  generalize hsc : scan xs 0 0 = sc at *
  obtain ⟨bd, n, a⟩ := sc
  simp only at *
  cases bd with
  | true =>
    simp only [if_true] at hl
    exact ⟨.slice none 0 0, R15 gv1 rfl (by simp [x15, hl]), .inl ⟨rfl, rfl⟩⟩
  | false =>
    simp only [Bool.false_eq_true, if_false] at hl ⊢
    by_cases h1 : a = xs.length
    · rw [if_pos h1]
      refine ⟨.slice none 0 0, R15 gv1 rfl ?_, .inl ⟨rfl, rfl⟩⟩
      simp [x15, hl, hb.len, h1]
    · rw [if_neg h1]
      have h1' : ¬ ((a : Int) = xs.length) := by omega
      have hlt : a < xs.length := by omega
      obtain ⟨o, off, p1, p2⟩ := hb.byte (List.getElem?_eq_getElem hlt) .i64
      have hge : xs.getD a 0 = xs[a] := by simp [List.getD, hlt]
      rw [hge]
      by_cases h2 : a = 0 ∨ xs[a] ≠ 58 ∨ 20000 < n
      · rw [if_pos h2]
        refine ⟨.slice none 0 0, R15 gv1 rfl ?_, .inl ⟨rfl, rfl⟩⟩
        by_cases e0 : (a : Int) = 0
        · have h1z : ¬ ((0 : Int) = xs.length) := by omega
          simp [x15, hl, hb.len, h1z, e0]
        · by_cases e58 : xs[a] = 58
          · have hn : 20000 < n := by
              rcases h2 with h | h | h
              · omega
              · exact absurd e58 h
              · exact h
            have e0' : a ≠ 0 := by omega
            simp [x15, hl, hb.len, h1', e0', p1, p2, e58, hn]
          · have e0' : a ≠ 0 := by omega
            simp [x15, hl, hb.len, h1', e0', p1, p2, e58]
      · rw [if_neg h2]
        simp only [not_or, Decidable.not_not] at h2
        obtain ⟨e0', e58, hn⟩ := h2
        obtain ⟨N, rfl⟩ := Int.eq_ofNat_of_zero_le s0
        simp only [Int.toNat_natCast]
        have w1 : IntKind.wrap .i64 ((a : Int) + 1) = (a : Int) + 1 := wrap_i64 (by omega) (by omega)
        have w2 : IntKind.wrap .i64 ((xs.length : Int) - ((a : Int) + 1)) = (xs.length : Int) - ((a : Int) + 1) := wrap_i64 (by omega) (by omega)
        by_cases h3 : ((xs.length : Int) - (a + 1)) ≤ (N : Int)
        · rw [if_pos h3]
          refine ⟨.slice none 0 0, R15 gv1 rfl ?_, .inl ⟨rfl, rfl⟩⟩
          simp [x15, hl, hb.len, h1', e0', p1, p2, e58, hn, w1, w2, h3]
        · rw [if_neg h3]
          have hN : a + 1 + N < xs.length := by omega
          have w3 : IntKind.wrap .i64 ((a : Int) + 1 + (N : Int)) = (a : Int) + 1 + (N : Int) := wrap_i64 (by omega) (by omega)
          have w4 : IntKind.wrap .i64 ((a : Int) + 1 + (N : Int) + 1) = (a : Int) + 1 + (N : Int) + 1 := wrap_i64 (by omega) (by omega)
          obtain ⟨o2, off2, q1, q2⟩ := hb.byte (List.getElem?_eq_getElem hN) .i64
          have hc : ((a + 1 + N : Nat) : Int) = (a : Int) + 1 + (N : Int) := by omega
          rw [hc] at q1
          have hge2 : xs.getD (a + 1 + N) 0 = xs[a + 1 + N] := by simp [List.getD, hN]
          rw [hge2]
          by_cases h4 : xs[a + 1 + N] ≠ 10
          · rw [if_pos h4]
            refine ⟨.slice none 0 0, R15 gv1 rfl ?_, .inl ⟨rfl, rfl⟩⟩
            simp [x15, hl, hb.len, h1', e0', p1, p2, e58, hn, w1, w2, h3, w3, q1, q2, h4]
          · rw [if_neg h4]
            simp only [ne_eq, Decidable.not_not] at h4
            have hlo : aLo (some (.int .i64 ((a : Int) + 1))) (a + 1 + N) = some (a + 1) := by
              have := aLo_int (k := .i64) (a := a + 1) (n := a + 1 + N) (by omega)
              simpa using this
            have hhi : aHi (some (.int .i64 ((a : Int) + 1 + (N : Int)))) xs.length = some (a + 1 + N) := by
              have := aHi_int (k := .i64) (a := a + 1 + N) (n := xs.length) (by omega)
              rw [hc] at this
              exact this
            obtain ⟨vc, c1, c2⟩ := hb0.cut_at hg (a := a + 1) (b := a + 1 + N) (by omega) (by omega) _ _ hlo hhi
            refine ⟨vc, R15 gv1 rfl ?_, ?_⟩
            · simp [x15, hl, hb.len, h1', e0', p1, p2, e58, hn, w1, w2, h3, w3, w4, q1, q2, h4, c1]
            · have e : (xs.take (a + 1 + N)).drop (a + 1) = (xs.drop (a + 1)).take N := by
                rw [List.drop_take]
                congr 1; omega
              rw [← e]; exact c2
end Go.Proofs.Ythihiidooomdnaa.D
