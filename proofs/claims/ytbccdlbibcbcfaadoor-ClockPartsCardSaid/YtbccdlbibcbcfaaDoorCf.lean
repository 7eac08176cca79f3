/-
  The law ClockBack.
-/
import Derived.Test.YtbccdlbibcbcfaaDoorCC
namespace Go.Proofs.YtbccdlbibcbcfaaDoor.D
open Go.RowKit
set_option linter.unusedVariables false
set_option linter.unusedSimpArgs false
theorem eqS_twoN (a b : Int) : aEqS true [.int, .int] (.agg #[.int .i64 a, .int .i64 b]) (.agg #[.int .i64 a, .int .i64 b]) = some (.bool false) := by simp
theorem eqB_same (b : Bool) : aEqB false (.bool b) (.bool b) = some (.bool true) := by cases b <;> rfl
def backB (O : Orc) (K L : Int) (a0 a1 : Value) (m : Mem) : Option Out :=
if known a0 = true then letK ((m).push ⟨0, (Value.cells a0).toList⟩) fun m0 =>
(vLd 2 true (.pointer (some ⟨(m).next, 0, none⟩)) m0).bind fun v1 =>
retK (O (.call 13) [v1] m0 []) (fun v2 m3 =>
(aExtract 0 v2).bind fun v5 =>
(aExtract 1 v2).bind fun v6 =>
cutN (
(aBin .eql v6 (.int .i64 (0))).bind fun v12 =>
br v12 (
retK (O (.call 9) [v5] m3 []) (fun v13 m14 =>
(aExtract 0 v13).bind fun v16 =>
(aExtract 1 v13).bind fun v17 =>
letK ((m14).push ⟨0, [(.int .i64 (0)), (.int .i64 (0))]⟩) fun m18 =>
(aSt 2 (.pointer (some ⟨(m14).next, 0, none⟩)) v16 m18).bind fun m19 =>
(aBin .neq v17 (.int .i64 (0))).bind fun v20 =>
br v20 (
some ⟨.ret, [a1, (.bool false)], m19, []⟩) (
(vLd 2 true (.pointer (some ⟨(m14).next, 0, none⟩)) m19).bind fun v21 =>
(vLd 2 true (.pointer (some ⟨(m).next, 0, none⟩)) m19).bind fun v22 =>
(aEqS true [.int, .int] v21 v22).bind fun v23 =>
br v23 (
some ⟨.ret, [a1, (.bool false)], m19, []⟩) (
some ⟨.normal, [a1, (.bool false)], m19, []⟩))) (fun p15 m24 => some ⟨.panic p15, [a1, (.bool false)], m24, []⟩)) (
some ⟨.normal, [a1, (.bool false)], m3, []⟩)) (fun w7 m8 =>
retK (O (.call 16) [(w7.getD 0 undef)] m8 []) (fun v25 m26 =>
(aExtract 0 v25).bind fun v28 =>
(aExtract 1 v25).bind fun v29 =>
cutN (
(aBin .eql v29 (.int .i64 (0))).bind fun v35 =>
br v35 (
retK (O (.call 11) [v28] m26 []) (fun v36 m37 =>
(aExtract 0 v36).bind fun v39 =>
(aExtract 1 v36).bind fun v40 =>
(aBin .neq v40 (.int .i64 (0))).bind fun v41 =>
br v41 (
some ⟨.ret, [(w7.getD 0 undef), (.bool false), v29], m37, []⟩) (
(aBin .neq v39 (w7.getD 0 undef)).bind fun v42 =>
br v42 (
some ⟨.ret, [(w7.getD 0 undef), (.bool false), v29], m37, []⟩) (
some ⟨.normal, [(w7.getD 0 undef), (w7.getD 1 undef), v29], m37, []⟩))) (fun p38 m43 => some ⟨.panic p38, [(w7.getD 0 undef), (w7.getD 1 undef), v29], m43, []⟩)) (
some ⟨.normal, [(w7.getD 0 undef), (w7.getD 1 undef), v29], m26, []⟩)) (fun w30 m31 =>
(aBin .eql (w30.getD 2 undef) (.int .i64 (0))).bind fun v44 =>
(aBin .geq (w30.getD 0 undef) (.int .i64 L)).bind fun v45 =>
br v45 (
(aBin .leq (w30.getD 0 undef) (.int .i64 K)).bind fun v46 =>
(aEqB false v44 v46).bind fun v47 =>
br v47 (
retK (O (.call 8) [] m31 []) (fun v48 m49 =>
some ⟨.ret, [v48], m49, []⟩) (fun p50 m51 => some ⟨.panic p50, [], m51, []⟩)) (
some ⟨.ret, [(.bool false)], m31, []⟩)) (
(aEqB false v44 (.bool false)).bind fun v52 =>
br v52 (
retK (O (.call 8) [] m31 []) (fun v53 m54 =>
some ⟨.ret, [v53], m54, []⟩) (fun p55 m56 => some ⟨.panic p55, [], m56, []⟩)) (
some ⟨.ret, [(.bool false)], m31, []⟩))) (fun id33 w30 m31 =>
none) (fun w30 m31 =>
some ⟨.ret, [(w30.getD 1 undef)], m31, []⟩) (fun p34 w30 m31 =>
some ⟨.panic p34, [], m31, []⟩)) (fun p27 m57 => some ⟨.panic p27, [], m57, []⟩)) (fun id10 w7 m8 =>
none) (fun w7 m8 =>
some ⟨.ret, [(w7.getD 1 undef)], m8, []⟩) (fun p11 w7 m8 =>
some ⟨.panic p11, [], m8, []⟩)) (fun p4 m58 => some ⟨.panic p4, [], m58, []⟩) else none
/-- What the law needs of each amount. -/
structure AmtOk (K L a : Int) : Prop where
  ok : (∃ T, (∀ m, LV CV (.call 16) [.int .i64 a] m [] = some ⟨.ret, [.tuple #[S T, .int .i64 0]], m, []⟩) ∧ (∀ m, LV CV (.call 11) [S T] m [] = some ⟨.ret, [.tuple #[.int .i64 a, .int .i64 0]], m, []⟩) ∧ L ≤ a ∧ a ≤ K) ∨
    ((∀ m, LV CV (.call 16) [.int .i64 a] m [] = some ⟨.ret, [.tuple #[S [], .int .i64 1]], m, []⟩) ∧ ¬ (L ≤ a ∧ a ≤ K))
theorem backB_V {K L n k a : Int} (hA : AmtOk K L a) (m' : Mem) {M : Mem} (hlo : M.lo ≤ M.next)
    (hS : (∃ T, (∀ m, LV CV (.call 13) [.agg #[.int .i64 n, .int .i64 k]] m [] = some ⟨.ret, [.tuple #[S T, .int .i64 0]], m, []⟩) ∧ (∀ m, LV CV (.call 9) [S T] m [] = some ⟨.ret, [.tuple #[.agg #[.int .i64 n, .int .i64 k], .int .i64 0]], m, []⟩)) ∨ (∀ m, LV CV (.call 13) [.agg #[.int .i64 n, .int .i64 k]] m [] = some ⟨.ret, [.tuple #[S [], .int .i64 1]], m, []⟩)) :
    (backB (LV CV) K L (at2 n k) (.int .i64 a) M).bind (close m') = some ⟨.ret, [.bool true], m', []⟩ := by
  have g0 : ((M.push ⟨0, [.int .i64 n, .int .i64 k]⟩).push ⟨0, [.int .i64 0, .int .i64 0]⟩).get (M.next + 1) = some ⟨0, [.int .i64 0, .int .i64 0]⟩ := by rw [Mem.get_push, if_pos (by simp)]
  have s1 := aSt_two (a := n) (b := k) g0 (by simp; omega)
  have q1 : (((M.push ⟨0, [.int .i64 n, .int .i64 k]⟩).push ⟨0, [.int .i64 0, .int .i64 0]⟩).set (M.next + 1) ⟨0, [.int .i64 n, .int .i64 k]⟩).get M.next = some ⟨0, [.int .i64 n, .int .i64 k]⟩ := by
    rw [Mem.get_set, if_neg (by omega), Mem.get_push, if_neg (by simp), Mem.get_push, if_pos rfl]
  have q2 : (((M.push ⟨0, [.int .i64 n, .int .i64 k]⟩).push ⟨0, [.int .i64 0, .int .i64 0]⟩).set (M.next + 1) ⟨0, [.int .i64 n, .int .i64 k]⟩).get (M.next + 1) = some ⟨0, [.int .i64 n, .int .i64 k]⟩ := by
    rw [Mem.get_set, if_pos rfl]
  have e1 := eqS_twoN n k
  rcases hS with ⟨T, t1, t2⟩ | t1
  · rcases hA.ok with ⟨U, u1, u2, u3, u4⟩ | ⟨u1, u2⟩
    · simp only [backB]
      simp [t1, t2, s1, q1, q2, e1, u1, u2, u3, u4, cutN, eqB_same]
    · simp only [backB]
      by_cases h1 : L ≤ a
      · have h2 : ¬ a ≤ K := fun h => u2 ⟨h1, h⟩
        simp [t1, t2, s1, q1, q2, e1, u1, h1, h2, cutN, eqB_same]
      · simp [t1, t2, s1, q1, q2, e1, u1, h1, cutN, eqB_same]
  · rcases hA.ok with ⟨U, u1, u2, u3, u4⟩ | ⟨u1, u2⟩
    · simp only [backB]
      simp [t1, u1, u2, u3, u4, cutN, eqB_same]
    · simp only [backB]
      by_cases h1 : L ≤ a
      · have h2 : ¬ a ≤ K := fun h => u2 ⟨h1, h⟩
        simp [t1, u1, h1, h2, cutN, eqB_same]
      · simp [t1, u1, h1, cutN, eqB_same]
theorem back_V (n k a : Int) (m : Mem) : LV CV (.call 7) [at2 n k, .int .i64 a] m [] = some ⟨.ret, [.bool true], m, []⟩ := by
  have hA : AmtOk 86400 (-86400) a := by
    constructor
    by_cases ho : a < -86400 ∨ 86400 < a
    · right
      have h := fun m => showA_V a m
      rw [showA_out ho] at h
      refine ⟨h, ?_⟩
      rintro ⟨h1, h2⟩
      rcases ho with h | h
      · exact absurd h (Int.not_lt.2 h1)
      · exact absurd h (Int.not_lt.2 h2)
    · left
      have h1 : ¬ a < -86400 := fun h => ho (.inl h)
      have h2 : ¬ 86400 < a := fun h => ho (.inr h)
      have h := fun m => showA_V a m
      rw [showA_in ho] at h
      have b1 : -604800 < a := by omega
      have b2 : a < 604800 := by omega
      have hlen := textP_len b1 b2
      have h3 := fun m => amount_V (s := textP a) (by omega) m
      have e : amountR (textP a) = .tuple #[.int .i64 a, .int .i64 0] := by unfold amountR; rw [amount_text h1 h2]
      rw [e] at h3
      exact ⟨textP a, h, h3, Int.not_lt.1 h1, Int.not_lt.1 h2⟩
  refine R7 (backB_V hA m (Nat.le_refl _) ?_)
  by_cases ho : n ≤ -604800 ∨ 604800 ≤ n ∨ k < 0 ∨ 2 < k
  · right
    have h := fun m => show_V n k m
    rw [show_out ho] at h
    exact h
  · left
    have h := fun m => show_V n k m
    rw [show_in ho] at h
    have b1 : -604800 < n := Int.not_le.1 fun h => ho (.inl h)
    have b2 : n < 604800 := Int.not_le.1 fun h => ho (.inr (.inl h))
    have hk : k = 0 ∨ k = 1 ∨ k = 2 := kind_cases (fun h => ho (.inr (.inr (.inl h)))) (fun h => ho (.inr (.inr (.inr h))))
    have hlen := textP_len b1 b2
    have hlen2 := kindP_len k
    have p2 := fun m => parse_V (s := textP n ++ kindP k) (by simp; omega) m
    unfold parseR at p2
    rw [parse_show b1 b2 hk] at p2
    exact ⟨_, h, p2⟩
end Go.Proofs.YtbccdlbibcbcfaaDoor.D
