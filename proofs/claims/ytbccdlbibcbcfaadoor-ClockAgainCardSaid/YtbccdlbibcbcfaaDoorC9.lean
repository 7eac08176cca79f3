/-
  The law ClockParses.
-/
import Derived.Test.YtbccdlbibcbcfaaDoorC8
namespace Go.Proofs.YtbccdlbibcbcfaaDoor.D
open Go.RowKit
set_option linter.unusedVariables false
set_option linter.unusedSimpArgs false
theorem parseR_at (s : List UInt8) : ∃ n k j, parseR s = .tuple #[.agg #[.int .i64 n, .int .i64 k], .int .i64 j] := by
  unfold parseR
  split
  · exact ⟨_, _, _, rfl⟩
  · exact ⟨_, _, _, rfl⟩
theorem amountR_at (s : List UInt8) : ∃ n j, amountR s = .tuple #[.int .i64 n, .int .i64 j] := by
  unfold amountR
  split
  · exact ⟨_, _, rfl⟩
  · exact ⟨_, _, rfl⟩
theorem eqS_two (a b : Int) : aEqS false [.int, .int] (.agg #[.int .i64 a, .int .i64 b]) (.agg #[.int .i64 a, .int .i64 b]) = some (.bool true) := by
  simp
theorem parses_V (s : List UInt8) (m : Mem) : LV CV (.call 3) [S s] m [] = some ⟨.ret, [.bool true], m, []⟩ := by
  refine R3 ?_
  by_cases h : 500 < s.length
  · have h' : (500 : Int) < s.length := by omega
    simp [x3, h']
  · have h' : ¬ (500 : Int) < s.length := by omega
    have p1 := fun m => parse_V (s := s) (by omega) m
    have p2 := fun m => rparse_V (s := s) (by omega) m
    have p3 := fun m => amount_V (s := s) (by omega) m
    have p4 := fun m => ramount_V (s := s) (by omega) m
    obtain ⟨n, k, j, e⟩ := parseR_at s
    obtain ⟨a, b, e2⟩ := amountR_at s
    rw [e] at p1 p2
    rw [e2] at p3 p4
    generalize hM : (⟨[], m.next, m.next, 0⟩ : Mem) = M
    have hlo : M.lo ≤ M.next := by rw [← hM]; exact Nat.le_refl _
    have g1 : (M.push ⟨0, [.int .i64 0, .int .i64 0]⟩).get M.next = some ⟨0, [.int .i64 0, .int .i64 0]⟩ := by simp
    have s1 := aSt_two (a := n) (b := k) g1 (by simpa using hlo)
    have g2 : (((M.push ⟨0, [.int .i64 0, .int .i64 0]⟩).set M.next ⟨0, [.int .i64 n, .int .i64 k]⟩).push ⟨0, [.int .i64 0, .int .i64 0]⟩).get (M.next + 1) = some ⟨0, [.int .i64 0, .int .i64 0]⟩ := by rw [Mem.get_push, if_pos (by simp)]
    have s2 := aSt_two (a := n) (b := k) g2 (by simp; omega)
    have q1 : ((((M.push ⟨0, [.int .i64 0, .int .i64 0]⟩).set M.next ⟨0, [.int .i64 n, .int .i64 k]⟩).push ⟨0, [.int .i64 0, .int .i64 0]⟩).set (M.next + 1) ⟨0, [.int .i64 n, .int .i64 k]⟩).get M.next = some ⟨0, [.int .i64 n, .int .i64 k]⟩ := by
      rw [Mem.get_set, if_neg (by omega), Mem.get_push, if_neg (by simp), Mem.get_set, if_pos rfl]
    have q2 : ((((M.push ⟨0, [.int .i64 0, .int .i64 0]⟩).set M.next ⟨0, [.int .i64 n, .int .i64 k]⟩).push ⟨0, [.int .i64 0, .int .i64 0]⟩).set (M.next + 1) ⟨0, [.int .i64 n, .int .i64 k]⟩).get (M.next + 1) = some ⟨0, [.int .i64 n, .int .i64 k]⟩ := by
      rw [Mem.get_set, if_pos rfl]
    have hq := eqS_two n k
    simp only [x3]
    simp [h', p1, p2, p3, p4, s1, s2, q1, q2, hq]
end Go.Proofs.YtbccdlbibcbcfaaDoor.D
