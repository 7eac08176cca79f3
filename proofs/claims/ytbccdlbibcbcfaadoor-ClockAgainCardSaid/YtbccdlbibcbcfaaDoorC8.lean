/-
  The document's Parse; Amount, the program's and the document's.
-/
import Derived.Test.YtbccdlbibcbcfaaDoorC7
namespace Go.Proofs.YtbccdlbibcbcfaaDoor.D
open Go.RowKit
set_option linter.unusedVariables false
set_option linter.unusedSimpArgs false
theorem rparse_V {s : List UInt8} (hs : s.length < 1000000) (m : Mem) : LV CV (.call 10) [S s] m [] = some ⟨.ret, [parseR s], m, []⟩ := by
  refine R10 ?_
  generalize hM : (⟨[], m.next, m.next, 0⟩ : Mem) = M
  have hg : (M.push ⟨0, [.int .i64 0, .int .i64 0]⟩).get M.next = some ⟨0, [.int .i64 0, .int .i64 0]⟩ := by simp
  have hlo : M.lo ≤ M.next := by rw [← hM]; exact Nat.le_refl _
  have hst := fun (a b : Int) => aSt_two (a := a) (b := b) hg (by simpa using hlo)
  have fin : ∀ {x : Option Out} {v : Value}, (∃ m', x = some ⟨.ret, [v], m', []⟩) → (∀ k n m, frz (k + 6) n m v = v) → (x.bind (close m)) = some ⟨.ret, [v], m, []⟩ := by
    rintro x v ⟨m', rfl⟩ hv
    simp [hv]
  have fz7 : ∀ (a b c : Int) (k n : Nat) (m : Mem), frz (k + 6) n m (.tuple #[.agg #[.int .i64 a, .int .i64 b], .int .i64 c]) = .tuple #[.agg #[.int .i64 a, .int .i64 b], .int .i64 c] := fun a b c k n m => by simp
  unfold parseR parseP
  by_cases h : s.length < 2
  · have h' : ¬ (1 : Int) < s.length := by omega
    rw [suf_short h]
    rw [if_neg (by simp)]
    have h2 := fun m => rtime_V hs m
    unfold refR at h2
    cases ht : timeP s with
    | none =>
      rw [ht] at h2
      refine fin ⟨?_, ?_⟩ (fz7 _ _ _)
      rotate_left
      simp only [x10]
      simp [h', h2, build00, buildnk, hst, ir10, resOfV, resLV, pack]
      rfl
    | some n =>
      rw [ht] at h2
      refine fin ⟨?_, ?_⟩ (fz7 _ _ _)
      rotate_left
      simp only [x10]
      simp [h', h2, build00, buildnk, hst, ir10, resOfV, resLV, pack]
      rfl
  · obtain ⟨d, c, rfl, hd⟩ := snoc_cases s (by omega)
    have hsl : d.length + 1 < 1000000 := by simpa using hs
    have hdne : d ≠ [] := by intro e; subst e; simp at hd
    have h' : (1 : Int) < (d.length : Int) + 1 := by omega
    have w : IntKind.wrap .i64 (d.length : Int) = d.length := wrap_i64 (by omega) (by omega)
    have hle : (d.length : Int) ≤ (d.length : Int) + 1 := by omega
    have h45 : ¬ d ++ [c] = [45] := by
      intro e
      have := congrArg List.length e
      simp at this
      exact hdne this
    have hne : ¬ d ++ [c] = d := by
      intro e
      have := congrArg List.length e
      simp at this
    -- cut, of so great a kind
    have cut : ∀ (k : Int), sufP (d ++ [c]) = (d, k) → (c = 119 ∧ k = 0 ∨ c = 115 ∧ k = 1 ∨ c = 117 ∧ k = 2 ∨ c = 103 ∧ k = 2 ∨ c = 122 ∧ k = 2) →
        ((x10 (LV CV) (S (d ++ [c])) M).bind (close m)) = some ⟨.ret, [parseR (d ++ [c])], m, []⟩ := by
      intro k hk hc
      have h2 := fun m => rtime_V (s := d) (by omega) m
      unfold refR at h2
      unfold parseR parseP
      rw [hk]
      by_cases hd45 : d = [45]
      · subst hd45
        have w01 : IntKind.wrap .i64 1 = 1 := by decide
        rw [if_pos ⟨rfl, hne⟩]
        rcases hc with ⟨rfl, rfl⟩ | ⟨rfl, rfl⟩ | ⟨rfl, rfl⟩ | ⟨rfl, rfl⟩ | ⟨rfl, rfl⟩ <;> (refine fin ⟨?_, ?_⟩ (fz7 _ _ _); rotate_left; simp only [x10]; simp [w01, h45, build00, buildnk, hst, ir10, resOfV, resLV, pack]; rfl)
      · rw [if_neg (fun h => hd45 h.1)]
        cases ht : timeP d with
        | none =>
          rw [ht] at h2
          rcases hc with ⟨rfl, rfl⟩ | ⟨rfl, rfl⟩ | ⟨rfl, rfl⟩ | ⟨rfl, rfl⟩ | ⟨rfl, rfl⟩ <;> (refine fin ⟨?_, ?_⟩ (fz7 _ _ _); rotate_left; simp only [x10]; simp [h', w, hle, h45, hd45, h2, build00, buildnk, hst, ir10, resOfV, resLV, pack]; rfl)
        | some n =>
          rw [ht] at h2
          rcases hc with ⟨rfl, rfl⟩ | ⟨rfl, rfl⟩ | ⟨rfl, rfl⟩ | ⟨rfl, rfl⟩ | ⟨rfl, rfl⟩ <;> (refine fin ⟨?_, ?_⟩ (fz7 _ _ _); rotate_left; simp only [x10]; simp [h', w, hle, h45, hd45, h2, build00, buildnk, hst, ir10, resOfV, resLV, pack]; rfl)
    have hsn := suf_snoc d c hd
    have goal : ∀ r, ((x10 (LV CV) (S (d ++ [c])) M).bind (close m)) = some ⟨.ret, [parseR (d ++ [c])], m, []⟩ → r = parseR (d ++ [c]) → ((x10 (LV CV) (S (d ++ [c])) M).bind (close m)) = some ⟨.ret, [r], m, []⟩ := fun r h e => by rw [e]; exact h
    refine goal _ ?_ rfl
    by_cases h1 : c = 119
    · exact cut 0 (by rw [hsn, if_pos h1]) (.inl ⟨h1, rfl⟩)
    · rw [if_neg h1] at hsn
      by_cases h2 : c = 115
      · exact cut 1 (by rw [hsn, if_pos h2]) (.inr (.inl ⟨h2, rfl⟩))
      · rw [if_neg h2] at hsn
        by_cases h3 : c = 117
        · exact cut 2 (by rw [hsn, if_pos h3]) (.inr (.inr (.inl ⟨h3, rfl⟩)))
        · rw [if_neg h3] at hsn
          by_cases h4 : c = 103
          · exact cut 2 (by rw [hsn, if_pos h4]) (.inr (.inr (.inr (.inl ⟨h4, rfl⟩))))
          · rw [if_neg h4] at hsn
            by_cases h5 : c = 122
            · exact cut 2 (by rw [hsn, if_pos h5]) (.inr (.inr (.inr (.inr ⟨h5, rfl⟩))))
            · rw [if_neg h5] at hsn
              have e1 := byte_eq c 119 (by omega)
              have e2 := byte_eq c 115 (by omega)
              have e3 := byte_eq c 117 (by omega)
              have e4 := byte_eq c 103 (by omega)
              have e5 := byte_eq c 122 (by omega)
              simp only [Int.cast_ofNat_Int] at e1 e2 e3 e4 e5
              have f1 : ¬ (c.toNat : Int) = 119 := by rw [e1]; exact h1
              have f2 : ¬ (c.toNat : Int) = 115 := by rw [e2]; exact h2
              have f3 : ¬ (c.toNat : Int) = 117 := by rw [e3]; exact h3
              have f4 : ¬ (c.toNat : Int) = 103 := by rw [e4]; exact h4
              have f5 : ¬ (c.toNat : Int) = 122 := by rw [e5]; exact h5
              unfold parseR parseP
              rw [hsn, if_neg (by simp)]
              have t2 := fun m => rtime_V (s := d ++ [c]) hs m
              unfold refR at t2
              cases ht : timeP (d ++ [c]) with
              | none =>
                rw [ht] at t2
                refine fin ⟨?_, ?_⟩ (fz7 _ _ _)
                rotate_left
                simp only [x10]
                simp [h', w, hle, h45, f1, f2, f3, f4, f5, t2, build00, buildnk, hst, ir10, resOfV, resLV, pack]
                rfl
              | some n =>
                rw [ht] at t2
                refine fin ⟨?_, ?_⟩ (fz7 _ _ _)
                rotate_left
                simp only [x10]
                simp [h', w, hle, h45, f1, f2, f3, f4, f5, t2, build00, buildnk, hst, ir10, resOfV, resLV, pack]
                rfl
def amountR (s : List UInt8) : Value := match amountP s with | some n => .tuple #[.int .i64 n, .int .i64 0] | none => .tuple #[.int .i64 0, .int .i64 7]
theorem amount_none {s : List UInt8} (h : timeP s = none) : amountR s = .tuple #[.int .i64 0, .int .i64 7] := by
  unfold amountR amountP; rw [h]
theorem amount_out {s : List UInt8} {n : Int} (h : timeP s = some n) (ho : 86400 < n ∨ n < -86400) : amountR s = .tuple #[.int .i64 0, .int .i64 7] := by
  unfold amountR amountP; rw [h]; simp only; rw [if_pos ho]
theorem amount_in {s : List UInt8} {n : Int} (h : timeP s = some n) (h1 : ¬ 86400 < n) (h2 : ¬ n < -86400) : amountR s = .tuple #[.int .i64 n, .int .i64 0] := by
  unfold amountR amountP; rw [h]; simp only; rw [if_neg (by rintro (h | h); exact h1 h; exact h2 h)]
/-- With the bounds as what they may be. -/
def amB (O : Orc) (K L : Int) (a0 : Value) (m : Mem) : Option Out :=
retK (O (.call 19) [a0] m []) (fun v0 m1 =>
(aExtract 0 v0).bind fun v3 =>
(aExtract 1 v0).bind fun v4 =>
(aBin .neq v4 (.int .i64 (0))).bind fun v5 =>
br v5 (
some ⟨.ret, [.tuple [(.int .i64 (0)), (.int .i64 (7))].toArray], m1, []⟩) (
(aBin .gtr v3 (.int .i64 K)).bind fun v6 =>
br v6 (
some ⟨.ret, [.tuple [(.int .i64 (0)), (.int .i64 (7))].toArray], m1, []⟩) (
(aBin .lss v3 (.int .i64 L)).bind fun v7 =>
br v7 (
some ⟨.ret, [.tuple [(.int .i64 (0)), (.int .i64 (7))].toArray], m1, []⟩) (
some ⟨.ret, [.tuple [v3, (.int .i64 (0))].toArray], m1, []⟩)))) (fun p2 m8 => some ⟨.panic p2, [], m8, []⟩)
theorem amB_none {s : List UInt8} (K L : Int) (m m' : Mem) (h : ∀ m, LV CV (.call 19) [S s] m [] = some ⟨.ret, [.tuple #[.int .i64 0, .int .i64 7]], m, []⟩) : (amB (LV CV) K L (S s) m).bind (close m') = some ⟨.ret, [.tuple #[.int .i64 0, .int .i64 7]], m', []⟩ := by
  simp [amB, h]
theorem amB_out {s : List UInt8} {K L n : Int} (m m' : Mem) (h : ∀ m, LV CV (.call 19) [S s] m [] = some ⟨.ret, [.tuple #[.int .i64 n, .int .i64 0]], m, []⟩) (ho : K < n ∨ n < L) : (amB (LV CV) K L (S s) m).bind (close m') = some ⟨.ret, [.tuple #[.int .i64 0, .int .i64 7]], m', []⟩ := by
  by_cases h1 : K < n
  · simp [amB, h, h1]
  · have h2 : n < L := by rcases ho with h | h; exact absurd h h1; exact h
    simp [amB, h, h1, h2]
theorem amB_in {s : List UInt8} {K L n : Int} (m m' : Mem) (h : ∀ m, LV CV (.call 19) [S s] m [] = some ⟨.ret, [.tuple #[.int .i64 n, .int .i64 0]], m, []⟩) (h1 : ¬ K < n) (h2 : ¬ n < L) : (amB (LV CV) K L (S s) m).bind (close m') = some ⟨.ret, [.tuple #[.int .i64 n, .int .i64 0]], m', []⟩ := by
  simp [amB, h, h1, h2]
theorem amount_V {s : List UInt8} (hs : s.length < 1000000) (m : Mem) : LV CV (.call 11) [S s] m [] = some ⟨.ret, [amountR s], m, []⟩ := by
  have h := fun m => seconds_V (s := s) (by omega) m
  unfold secR at h
  cases ht : timeP s with
  | none =>
    rw [ht] at h; rw [amount_none ht]
    exact R11 (amB_none 86400 (-86400) _ m h)
  | some n =>
    rw [ht] at h
    by_cases ho : 86400 < n ∨ n < -86400
    · rw [amount_out ht ho]
      exact R11 (amB_out _ m h ho)
    · rw [amount_in ht (fun h => ho (.inl h)) (fun h => ho (.inr h))]
      exact R11 (amB_in _ m h (fun h => ho (.inl h)) (fun h => ho (.inr h)))
/-- With the bounds as what they may be. -/
def ramB (O : Orc) (K L : Int) (a0 : Value) (m : Mem) : Option Out :=
retK (O (.call 20) [a0] m []) (fun v0 m1 =>
(aExtract 0 v0).bind fun v3 =>
(aExtract 1 v0).bind fun v4 =>
(aUn .not v4).bind fun v5 =>
br v5 (
some ⟨.ret, [.tuple [(.int .i64 (0)), (.int .i64 (7))].toArray], m1, []⟩) (
(aBin .gtr v3 (.int .i64 K)).bind fun v6 =>
br v6 (
some ⟨.ret, [.tuple [(.int .i64 (0)), (.int .i64 (7))].toArray], m1, []⟩) (
(aBin .lss v3 (.int .i64 L)).bind fun v7 =>
br v7 (
some ⟨.ret, [.tuple [(.int .i64 (0)), (.int .i64 (7))].toArray], m1, []⟩) (
some ⟨.ret, [.tuple [v3, (.int .i64 (0))].toArray], m1, []⟩)))) (fun p2 m8 => some ⟨.panic p2, [], m8, []⟩)
theorem ramB_none {s : List UInt8} (K L : Int) (m m' : Mem) (h : ∀ m, LV CV (.call 20) [S s] m [] = some ⟨.ret, [.tuple #[.int .i64 0, .bool false]], m, []⟩) : (ramB (LV CV) K L (S s) m).bind (close m') = some ⟨.ret, [.tuple #[.int .i64 0, .int .i64 7]], m', []⟩ := by
  simp [ramB, h]
theorem ramB_out {s : List UInt8} {K L n : Int} (m m' : Mem) (h : ∀ m, LV CV (.call 20) [S s] m [] = some ⟨.ret, [.tuple #[.int .i64 n, .bool true]], m, []⟩) (ho : K < n ∨ n < L) : (ramB (LV CV) K L (S s) m).bind (close m') = some ⟨.ret, [.tuple #[.int .i64 0, .int .i64 7]], m', []⟩ := by
  by_cases h1 : K < n
  · simp [ramB, h, h1]
  · have h2 : n < L := by rcases ho with h | h; exact absurd h h1; exact h
    simp [ramB, h, h1, h2]
theorem ramB_in {s : List UInt8} {K L n : Int} (m m' : Mem) (h : ∀ m, LV CV (.call 20) [S s] m [] = some ⟨.ret, [.tuple #[.int .i64 n, .bool true]], m, []⟩) (h1 : ¬ K < n) (h2 : ¬ n < L) : (ramB (LV CV) K L (S s) m).bind (close m') = some ⟨.ret, [.tuple #[.int .i64 n, .int .i64 0]], m', []⟩ := by
  simp [ramB, h, h1, h2]
theorem ramount_V {s : List UInt8} (hs : s.length < 1000000) (m : Mem) : LV CV (.call 12) [S s] m [] = some ⟨.ret, [amountR s], m, []⟩ := by
  have h := fun m => rtime_V (s := s) (by omega) m
  unfold refR at h
  cases ht : timeP s with
  | none =>
    rw [ht] at h; rw [amount_none ht]
    exact R12 (ramB_none 86400 (-86400) _ m h)
  | some n =>
    rw [ht] at h
    by_cases ho : 86400 < n ∨ n < -86400
    · rw [amount_out ht ho]
      exact R12 (ramB_out _ m h ho)
    · rw [amount_in ht (fun h => ho (.inl h)) (fun h => ho (.inr h))]
      exact R12 (ramB_in _ m h (fun h => ho (.inl h)) (fun h => ho (.inr h)))
end Go.Proofs.YtbccdlbibcbcfaaDoor.D
