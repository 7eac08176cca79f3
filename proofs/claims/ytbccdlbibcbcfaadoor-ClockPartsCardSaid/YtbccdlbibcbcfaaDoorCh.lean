/-
  The law ClockParts, whole.
-/
import Derived.Test.YtbccdlbibcbcfaaDoorCg
namespace Go.Proofs.YtbccdlbibcbcfaaDoor.D
open Go.RowKit
set_option linter.unusedVariables false
set_option linter.unusedSimpArgs false
theorem parts_in {H M X : Nat} (h1 : H < 168) (h2 : M < 60) (h3 : X < 60) (k : Int) (hk0 : ¬ k < 0) (hk2 : ¬ 2 < k) (low : Bool) (m' : Mem) {m : Mem} (hm : m.lo ≤ m.next) :
    (x5 (LV CV) (.int .i64 H) (.int .i64 M) (.int .i64 X) (.int .i64 k) (.bool low) m).bind (close m') = some ⟨.ret, [.bool true], m', []⟩ := by
  have g1 : ¬ (H : Int) < 0 := by omega
  have g2 : ¬ (167 : Int) < H := by omega
  have g3 : ¬ (M : Int) < 0 := by omega
  have g4 : ¬ (59 : Int) < M := by omega
  have g5 : ¬ (X : Int) < 0 := by omega
  have g6 : ¬ (59 : Int) < X := by omega
  obtain ⟨N1, e1⟩ : ∃ N1 : Nat, N1 = H * 3600 := ⟨_, rfl⟩
  obtain ⟨N3, e3⟩ : ∃ N3 : Nat, N3 = M * 60 := ⟨_, rfl⟩
  obtain ⟨N2, e2⟩ : ∃ N2 : Nat, N2 = N1 + N3 := ⟨_, rfl⟩
  obtain ⟨N, hN⟩ : ∃ N : Nat, N = N2 + X := ⟨_, rfl⟩
  have w1 : IntKind.wrap .i64 ((H : Int) * 3600) = (N1 : Int) := by rw [wrap_i64 (by omega) (by omega)]; omega
  have w2 : IntKind.wrap .i64 ((M : Int) * 60) = (N3 : Int) := by rw [wrap_i64 (by omega) (by omega)]; omega
  have w3 : IntKind.wrap .i64 ((N1 : Int) + (N3 : Int)) = (N2 : Int) := by rw [wrap_i64 (by omega) (by omega)]; omega
  have w4 : IntKind.wrap .i64 ((N2 : Int) + (X : Int)) = (N : Int) := by rw [wrap_i64 (by omega) (by omega)]; omega
  have w5 : IntKind.wrap .i64 (0 - (N : Int)) = -(N : Int) := by rw [wrap_i64 (by omega) (by omega)]; omega
  have w6 : IntKind.wrap .i64 (-(N : Int)) = -(N : Int) := wrap_i64 (by omega) (by omega)
  have hNN : H * 3600 + M * 60 + X = N := by omega
  have qH100 : (H : Int).tdiv 100 = ((H / 100 : Nat) : Int) := by rw [Int.tdiv_eq_ediv_of_nonneg (by omega)]; rfl
  have vH100 : IntKind.wrap .i64 ((H / 100 : Nat) : Int) = ((H / 100 : Nat) : Int) := wrap_i64 (by omega) (by omega)
  have qH10 : (H : Int).tdiv 10 = ((H / 10 : Nat) : Int) := by rw [Int.tdiv_eq_ediv_of_nonneg (by omega)]; rfl
  have vH10 : IntKind.wrap .i64 ((H / 10 : Nat) : Int) = ((H / 10 : Nat) : Int) := wrap_i64 (by omega) (by omega)
  have qM10 : (M : Int).tdiv 10 = ((M / 10 : Nat) : Int) := by rw [Int.tdiv_eq_ediv_of_nonneg (by omega)]; rfl
  have vM10 : IntKind.wrap .i64 ((M / 10 : Nat) : Int) = ((M / 10 : Nat) : Int) := wrap_i64 (by omega) (by omega)
  have qX10 : (X : Int).tdiv 10 = ((X / 10 : Nat) : Int) := by rw [Int.tdiv_eq_ediv_of_nonneg (by omega)]; rfl
  have vX10 : IntKind.wrap .i64 ((X / 10 : Nat) : Int) = ((X / 10 : Nat) : Int) := wrap_i64 (by omega) (by omega)
  have rH : (H : Int).tmod 10 = ((H % 10 : Nat) : Int) := by rw [Int.tmod_eq_emod_of_nonneg (by omega)]; rfl
  have rM : (M : Int).tmod 10 = ((M % 10 : Nat) : Int) := by rw [Int.tmod_eq_emod_of_nonneg (by omega)]; rfl
  have rX : (X : Int).tmod 10 = ((X % 10 : Nat) : Int) := by rw [Int.tmod_eq_emod_of_nonneg (by omega)]; rfl
  have rH2 : ((H / 10 : Nat) : Int).tmod 10 = ((H / 10 % 10 : Nat) : Int) := by rw [Int.tmod_eq_emod_of_nonneg (by omega)]; rfl
  have d1 := fun m => digit_V (d := H / 100) (by omega) m
  have d2 := fun m => digit_V (d := H / 10 % 10) (by omega) m
  have d3 := fun m => digit_V (d := H % 10) (by omega) m
  have d4 := fun m => digit_V (d := M / 10) (by omega) m
  have d5 := fun m => digit_V (d := M % 10) (by omega) m
  have d6 := fun m => digit_V (d := X / 10) (by omega) m
  have d7 := fun m => digit_V (d := X % 10) (by omega) m
  have pn : parseP (partT low H M X) = some (sgn low N, 0) := by rw [← hNN]; exact part_none h1 h2 h3
  have ps : ∀ c w, _ → parseP (partT low H M X ++ [c]) = some (sgn low N, w) := fun c w hc => by rw [← hNN]; exact part_suf h1 h2 h3 c w hc
  have hlen := (part_len low H M X).1
  have pp := fun m => parse_V (s := partT low H M X) (by omega) m
  unfold parseR at pp
  rw [pn] at pp
  simp only at pp
  obtain ⟨Z, hZ⟩ : ∃ Z, Z = sgn low N := ⟨_, rfl⟩
  simp only [← hZ] at pp ps
  obtain ⟨m2, hm2, e⟩ := kparts_loop (u := undef) hlen ps m hm
  have g : (m2.push ⟨0, [.int .i64 0, .int .i64 0]⟩).get m2.next = some ⟨0, [.int .i64 0, .int .i64 0]⟩ := by simp
  have s1 := aSt_two (a := Z) (b := 0) g (by simpa using hm2)
  have q1 : ((m2.push ⟨0, [.int .i64 0, .int .i64 0]⟩).set m2.next ⟨0, [.int .i64 Z, .int .i64 0]⟩).get m2.next = some ⟨0, [.int .i64 Z, .int .i64 0]⟩ := by rw [Mem.get_set, if_pos rfl]
  have hT9 : 99 < H → ∀ b : Bool, partT b H M X = (if b = true then [45] else []) ++ [dg (H / 100), dg (H / 10 % 10), dg (H % 10), 58, dg (M / 10), dg (M % 10), 58, dg (X / 10), dg (X % 10)] := fun h b => by unfold partT hh; rw [if_pos h]; simp
  have hT0 : ¬ 99 < H → ∀ b : Bool, partT b H M X = (if b = true then [45] else []) ++ [dg (H / 10 % 10), dg (H % 10), 58, dg (M / 10), dg (M % 10), 58, dg (X / 10), dg (X % 10)] := fun h b => by unfold partT hh; rw [if_neg h]; simp
  generalize dg (H / 100) = D1 at *
  generalize dg (H / 10 % 10) = D2 at *
  generalize dg (H % 10) = D3 at *
  generalize dg (M / 10) = D4 at *
  generalize dg (M % 10) = D5 at *
  generalize dg (X / 10) = D6 at *
  generalize dg (X % 10) = D7 at *
  clear hNN hN e1 e2 e3
  generalize H / 100 = E1 at *
  generalize H / 10 % 10 = E2 at *
  generalize H / 10 = E0 at *
  generalize H % 10 = E3 at *
  generalize M / 10 = E4 at *
  generalize M % 10 = E5 at *
  generalize X / 10 = E6 at *
  generalize X % 10 = E7 at *
  cases low with
  | true =>
    have hz : Z = -(N : Int) := hZ
    clear hZ ps pn
    by_cases h9 : 99 < H
    · have h9' : (99 : Int) < H := by omega
      rw [hT9 h9] at pp e
      unfold x5
      generalize (3600 : Int) = K at *
      simp at pp e
      subst hz
      simp [g1, g2, g3, g4, g5, g6, hk0, hk2, w1, w2, w3, w4, w5, w6, aUn_neg, cutN, h9', qH100, vH100, qH10, vH10, qM10, vM10, qX10, vX10, rH, rM, rX, rH2, d1, d2, d3, d4, d5, d6, d7, e, pp, s1, q1]
    · have h9' : ¬ (99 : Int) < H := by omega
      rw [hT0 h9] at pp e
      unfold x5
      generalize (3600 : Int) = K at *
      simp at pp e
      subst hz
      simp [g1, g2, g3, g4, g5, g6, hk0, hk2, w1, w2, w3, w4, w5, w6, aUn_neg, cutN, h9', qH100, vH100, qH10, vH10, qM10, vM10, qX10, vX10, rH, rM, rX, rH2, d1, d2, d3, d4, d5, d6, d7, e, pp, s1, q1]
  | false =>
    have hz : Z = (N : Int) := hZ
    clear hZ ps pn
    by_cases h9 : 99 < H
    · have h9' : (99 : Int) < H := by omega
      rw [hT9 h9] at pp e
      unfold x5
      generalize (3600 : Int) = K at *
      simp at pp e
      subst hz
      simp [g1, g2, g3, g4, g5, g6, hk0, hk2, w1, w2, w3, w4, w5, w6, aUn_neg, cutN, h9', qH100, vH100, qH10, vH10, qM10, vM10, qX10, vX10, rH, rM, rX, rH2, d1, d2, d3, d4, d5, d6, d7, e, pp, s1, q1]
    · have h9' : ¬ (99 : Int) < H := by omega
      rw [hT0 h9] at pp e
      unfold x5
      generalize (3600 : Int) = K at *
      simp at pp e
      subst hz
      simp [g1, g2, g3, g4, g5, g6, hk0, hk2, w1, w2, w3, w4, w5, w6, aUn_neg, cutN, h9', qH100, vH100, qH10, vH10, qM10, vM10, qX10, vX10, rH, rM, rX, rH2, d1, d2, d3, d4, d5, d6, d7, e, pp, s1, q1]
theorem cparts_V (a b c k : Int) (low : Bool) (m : Mem) : LV CV (.call 5) [.int .i64 a, .int .i64 b, .int .i64 c, .int .i64 k, .bool low] m [] = some ⟨.ret, [.bool true], m, []⟩ := by
  refine R5 ?_
  by_cases t0 : a < 0
  · unfold x5
    generalize (3600 : Int) = K
    simp [t0]
  by_cases t1 : 167 < a
  · unfold x5
    generalize (3600 : Int) = K
    simp [t0, t1]
  by_cases t2 : b < 0
  · unfold x5
    generalize (3600 : Int) = K
    simp [t0, t1, t2]
  by_cases t3 : 59 < b
  · unfold x5
    generalize (3600 : Int) = K
    simp [t0, t1, t2, t3]
  by_cases t4 : c < 0
  · unfold x5
    generalize (3600 : Int) = K
    simp [t0, t1, t2, t3, t4]
  by_cases t5 : 59 < c
  · unfold x5
    generalize (3600 : Int) = K
    simp [t0, t1, t2, t3, t4, t5]
  by_cases t6 : k < 0
  · unfold x5
    generalize (3600 : Int) = K
    simp [t0, t1, t2, t3, t4, t5, t6]
  by_cases t7 : 2 < k
  · unfold x5
    generalize (3600 : Int) = K
    simp [t0, t1, t2, t3, t4, t5, t6, t7]
  obtain ⟨H, rfl⟩ : ∃ H : Nat, a = H := ⟨a.toNat, by omega⟩
  obtain ⟨M, rfl⟩ : ∃ M : Nat, b = M := ⟨b.toNat, by omega⟩
  obtain ⟨X, rfl⟩ : ∃ X : Nat, c = X := ⟨c.toNat, by omega⟩
  exact parts_in (by omega) (by omega) (by omega) k t6 t7 low m (Nat.le_refl _)
end Go.Proofs.YtbccdlbibcbcfaaDoor.D
