/-
  ShowAmount; the laws ClockShows, ClockAgain and ClockBack.
-/
import Derived.Test.YtbccdlbibcbcfaaDoorCd
namespace Go.Proofs.YtbccdlbibcbcfaaDoor.D
open Go.RowKit
set_option linter.unusedVariables false
set_option linter.unusedSimpArgs false
def csaB (O : Orc) (K L : Int) (a0 : Value) (m : Mem) : Option Out :=
(aBin .lss a0 (.int .i64 L)).bind fun v0 =>
br v0 (
some ⟨.ret, [.tuple [(S []), (.int .i64 (1))].toArray], m, []⟩) (
(aBin .gtr a0 (.int .i64 K)).bind fun v1 =>
br v1 (
some ⟨.ret, [.tuple [(S []), (.int .i64 (1))].toArray], m, []⟩) (
retK (O (.call 21) [a0] m []) (fun v2 m3 =>
some ⟨.ret, [.tuple [v2, (.int .i64 (0))].toArray], m3, []⟩) (fun p4 m5 => some ⟨.panic p4, [], m5, []⟩)))
def rsaB (O : Orc) (K L : Int) (a0 : Value) (m : Mem) : Option Out :=
(aBin .lss a0 (.int .i64 L)).bind fun v0 =>
br v0 (
some ⟨.ret, [.tuple [(S []), (.int .i64 (1))].toArray], m, []⟩) (
(aBin .gtr a0 (.int .i64 K)).bind fun v1 =>
br v1 (
some ⟨.ret, [.tuple [(S []), (.int .i64 (1))].toArray], m, []⟩) (
retK (O (.call 22) [a0] m []) (fun v2 m3 =>
some ⟨.ret, [.tuple [v2, (.int .i64 (0))].toArray], m3, []⟩) (fun p4 m5 => some ⟨.panic p4, [], m5, []⟩)))
theorem csaB_out {K L n : Int} (m m' : Mem) (ho : n < L ∨ K < n) : (csaB (LV CV) K L (.int .i64 n) m).bind (close m') = some ⟨.ret, [.tuple #[S [], .int .i64 1]], m', []⟩ := by
  by_cases h1 : n < L
  · simp [csaB, h1]
  · have h2 : K < n := by rcases ho with h | h; exact absurd h h1; exact h
    simp [csaB, h1, h2]
theorem csaB_in {K L n : Int} {T : List UInt8} (m m' : Mem) (h : ∀ m, LV CV (.call 21) [.int .i64 n] m [] = some ⟨.ret, [S T], m, []⟩) (h1 : ¬ n < L) (h2 : ¬ K < n) : (csaB (LV CV) K L (.int .i64 n) m).bind (close m') = some ⟨.ret, [.tuple #[S T, .int .i64 0]], m', []⟩ := by
  simp [csaB, h1, h2, h]
theorem rsaB_out {K L n : Int} (m m' : Mem) (ho : n < L ∨ K < n) : (rsaB (LV CV) K L (.int .i64 n) m).bind (close m') = some ⟨.ret, [.tuple #[S [], .int .i64 1]], m', []⟩ := by
  by_cases h1 : n < L
  · simp [rsaB, h1]
  · have h2 : K < n := by rcases ho with h | h; exact absurd h h1; exact h
    simp [rsaB, h1, h2]
theorem rsaB_in {K L n : Int} {T : List UInt8} (m m' : Mem) (h : ∀ m, LV CV (.call 22) [.int .i64 n] m [] = some ⟨.ret, [S T], m, []⟩) (h1 : ¬ n < L) (h2 : ¬ K < n) : (rsaB (LV CV) K L (.int .i64 n) m).bind (close m') = some ⟨.ret, [.tuple #[S T, .int .i64 0]], m', []⟩ := by
  simp [rsaB, h1, h2, h]
theorem showA_V (n : Int) (m : Mem) : LV CV (.call 16) [.int .i64 n] m [] = some ⟨.ret, [showAmountR n], m, []⟩ := by
  by_cases ho : n < -86400 ∨ 86400 < n
  · rw [showA_out ho]
    exact R16 (csaB_out _ m ho)
  · rw [showA_in ho]
    have h1 : ¬ n < -86400 := fun h => ho (.inl h)
    have h2 : ¬ 86400 < n := fun h => ho (.inr h)
    have b1 : -604800 < n := by omega
    have b2 : n < 604800 := by omega
    exact R16 (csaB_in _ m (fun m => text_V b1 b2 m) h1 h2)
theorem rshowA_V (n : Int) (m : Mem) : LV CV (.call 17) [.int .i64 n] m [] = some ⟨.ret, [showAmountR n], m, []⟩ := by
  by_cases ho : n < -86400 ∨ 86400 < n
  · rw [showA_out ho]
    exact R17 (rsaB_out _ m ho)
  · rw [showA_in ho]
    have h1 : ¬ n < -86400 := fun h => ho (.inl h)
    have h2 : ¬ 86400 < n := fun h => ho (.inr h)
    have b1 : -604800 < n := by omega
    have b2 : n < 604800 := by omega
    exact R17 (rsaB_in _ m (fun m => shown_V b1 b2 m) h1 h2)
theorem showR_at (n k : Int) : ∃ t j, showR n k = .tuple #[S t, .int .i64 j] := by
  unfold showR
  split
  · exact ⟨_, _, rfl⟩
  · exact ⟨_, _, rfl⟩
theorem showAR_at (n : Int) : ∃ t j, showAmountR n = .tuple #[S t, .int .i64 j] := by
  unfold showAmountR
  split
  · exact ⟨_, _, rfl⟩
  · exact ⟨_, _, rfl⟩
theorem shows_V (n k a : Int) (m : Mem) : LV CV (.call 6) [at2 n k, .int .i64 a] m [] = some ⟨.ret, [.bool true], m, []⟩ := by
  refine R6 ?_
  have s1 := fun m => show_V n k m
  have s2 := fun m => rshow_V n k m
  have s3 := fun m => showA_V a m
  have s4 := fun m => rshowA_V a m
  obtain ⟨t, j, e⟩ := showR_at n k
  obtain ⟨u, i, e2⟩ := showAR_at a
  rw [e] at s1 s2
  rw [e2] at s3 s4
  simp [x6, s1, s2, s3, s4]
theorem again_V (s : List UInt8) (m : Mem) : LV CV (.call 4) [S s] m [] = some ⟨.ret, [.bool true], m, []⟩ := by
  refine R4 ?_
  by_cases h : 500 < s.length
  · have h' : (500 : Int) < s.length := by omega
    simp [x4, h']
  · have h' : ¬ (500 : Int) < s.length := by omega
    have p1 := fun m => parse_V (s := s) (by omega) m
    generalize hM : (⟨[], m.next, m.next, 0⟩ : Mem) = M
    have hlo : M.lo ≤ M.next := by rw [← hM]; exact Nat.le_refl _
    have g1 : (M.push ⟨0, [.int .i64 0, .int .i64 0]⟩).get M.next = some ⟨0, [.int .i64 0, .int .i64 0]⟩ := by simp
    unfold parseR at p1
    cases hp : parseP s with
    | none =>
      rw [hp] at p1
      have s1 := aSt_two (a := 0) (b := 0) g1 (by simpa using hlo)
      simp only [x4]
      simp [h', p1, s1, build00, eqS_two]
    | some nk =>
      obtain ⟨n, k⟩ := nk
      rw [hp] at p1
      obtain ⟨b1, b2, hk⟩ := parse_in hp
      have ho : ¬ (n ≤ -604800 ∨ 604800 ≤ n ∨ k < 0 ∨ 2 < k) := by omega
      have sh := fun m => show_V n k m
      rw [show_in ho] at sh
      have hlen := textP_len b1 b2
      have hlen2 := kindP_len k
      have p2 := fun m => parse_V (s := textP n ++ kindP k) (by simp; omega) m
      unfold parseR at p2
      rw [parse_show b1 b2 hk] at p2
      generalize textP n ++ kindP k = T at *
      have s1 := aSt_two (a := n) (b := k) g1 (by simpa using hlo)
      have g2 : (((M.push ⟨0, [.int .i64 0, .int .i64 0]⟩).set M.next ⟨0, [.int .i64 n, .int .i64 k]⟩).push ⟨0, [.int .i64 0, .int .i64 0]⟩).get (M.next + 1) = some ⟨0, [.int .i64 0, .int .i64 0]⟩ := by rw [Mem.get_push, if_pos (by simp)]
      have s2 := aSt_two (a := n) (b := k) g2 (by simp; omega)
      have q1 : ((((M.push ⟨0, [.int .i64 0, .int .i64 0]⟩).set M.next ⟨0, [.int .i64 n, .int .i64 k]⟩).push ⟨0, [.int .i64 0, .int .i64 0]⟩).set (M.next + 1) ⟨0, [.int .i64 n, .int .i64 k]⟩).get M.next = some ⟨0, [.int .i64 n, .int .i64 k]⟩ := by
        rw [Mem.get_set, if_neg (by omega), Mem.get_push, if_neg (by simp), Mem.get_set, if_pos rfl]
      have q2 : ((((M.push ⟨0, [.int .i64 0, .int .i64 0]⟩).set M.next ⟨0, [.int .i64 n, .int .i64 k]⟩).push ⟨0, [.int .i64 0, .int .i64 0]⟩).set (M.next + 1) ⟨0, [.int .i64 n, .int .i64 k]⟩).get (M.next + 1) = some ⟨0, [.int .i64 n, .int .i64 k]⟩ := by
        rw [Mem.get_set, if_pos rfl]
      have sh2 : ∀ m, LV CV (.call 13) [.agg #[.int .i64 n, .int .i64 k]] m [] = some ⟨.ret, [.tuple #[S T, .int .i64 0]], m, []⟩ := sh
      simp only [x4]
      simp [h', p1, s1, s2, q1, q2, sh2, p2, eqS_two]
end Go.Proofs.YtbccdlbibcbcfaaDoor.D
