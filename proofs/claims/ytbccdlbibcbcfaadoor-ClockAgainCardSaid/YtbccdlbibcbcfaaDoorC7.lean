/-
  Parse and Amount, the program's and the document's.
-/
import Derived.Test.YtbccdlbibcbcfaaDoorC6
namespace Go.Proofs.YtbccdlbibcbcfaaDoor.D
open Go.RowKit
set_option linter.unusedVariables false
set_option linter.unusedSimpArgs false
theorem snoc_cases (s : List UInt8) (h : 2 ≤ s.length) : ∃ d c, s = d ++ [c] ∧ 1 ≤ d.length := by
  have hne : s ≠ [] := by intro e; subst e; simp at h
  exact ⟨s.dropLast, s.getLast hne, (List.dropLast_concat_getLast hne).symm, by simp; omega⟩
theorem suf_short {s : List UInt8} (h : s.length < 2) : sufP s = (s, 0) := by unfold sufP; rw [if_pos h]
theorem suf_snoc (d : List UInt8) (c : UInt8) (h : 1 ≤ d.length) : sufP (d ++ [c]) = if c = 119 then (d, 0) else if c = 115 then (d, 1) else if c = 117 then (d, 2) else if c = 103 then (d, 2) else if c = 122 then (d, 2) else (d ++ [c], 0) := by
  unfold sufP
  rw [if_neg (by simp; omega)]
  simp only [List.getLast?_concat, List.dropLast_concat]
  by_cases h1 : c = 119
  · subst h1; rfl
  · rw [if_neg h1]
    by_cases h2 : c = 115
    · subst h2; rfl
    · rw [if_neg h2]
      by_cases h3 : c = 117
      · subst h3; rfl
      · rw [if_neg h3]
        by_cases h4 : c = 103
        · subst h4; rfl
        · rw [if_neg h4]
          by_cases h5 : c = 122
          · subst h5; rfl
          · rw [if_neg h5]
            split <;> simp_all
theorem byte_eq (c : UInt8) (k : Nat) (hk : k < 256) : ((c.toNat : Int) = k) = (c = UInt8.ofNat k) := propext ⟨fun h => UInt8.toNat_inj.1 (by rw [UInt8.toNat_ofNat']; omega), fun h => by rw [h, UInt8.toNat_ofNat']; omega⟩
theorem suffix_V {s : List UInt8} (hs : s.length < 1000000) (m : Mem) : LV CV (.call 18) [S s] m [] = some ⟨.ret, [.tuple #[S (sufP s).1, .int .i64 (sufP s).2]], m, []⟩ := by
  refine R18 ?_
  by_cases h : s.length < 2
  · have h' : (s.length : Int) < 2 := by omega
    rw [suf_short h]
    simp [x18, h']
  · obtain ⟨d, c, rfl, hd⟩ := snoc_cases s (by omega)
    rw [suf_snoc d c hd]
    have h' : ¬ (d.length : Int) + 1 < 2 := by omega
    have w : IntKind.wrap .i64 (d.length : Int) = d.length := by simp at hs; exact wrap_i64 (by omega) (by omega)
    have hle : (d.length : Int) ≤ (d.length : Int) + 1 := by omega
    have e1 := byte_eq c 119 (by omega)
    have e2 := byte_eq c 115 (by omega)
    have e3 := byte_eq c 117 (by omega)
    have e4 := byte_eq c 103 (by omega)
    have e5 := byte_eq c 122 (by omega)
    simp only [Int.cast_ofNat_Int] at e1 e2 e3 e4 e5
    change _ = (c = 119) at e1
    change _ = (c = 115) at e2
    change _ = (c = 117) at e3
    change _ = (c = 103) at e4
    change _ = (c = 122) at e5
    have hcl : ((c.toNat : Int)) = (c.toNat : Int) := rfl
    simp only [x18]
    by_cases h1 : c = 119
    · simp [h', w, hle, h1]
    · by_cases h2 : c = 115
      · simp [h', w, hle, h2]
      · by_cases h3 : c = 117
        · simp [h', w, hle, h3, cutN]
        · by_cases h4 : c = 103
          · simp [h', w, hle, h4, cutN]
          · by_cases h5 : c = 122
            · simp [h', w, hle, h5, cutN]
            · have f1 : ¬ (c.toNat : Int) = 119 := by rw [e1]; exact h1
              have f2 : ¬ (c.toNat : Int) = 115 := by rw [e2]; exact h2
              have f3 : ¬ (c.toNat : Int) = 117 := by rw [e3]; exact h3
              have f4 : ¬ (c.toNat : Int) = 103 := by rw [e4]; exact h4
              have f5 : ¬ (c.toNat : Int) = 122 := by rw [e5]; exact h5
              simp [h', w, hle, h1, h2, h3, h4, h5, f1, f2, f3, f4, f5, cutN]
theorem aSt_two {o : Nat} {m : Mem} {x y : Value} {a b : Int} (hg : m.get o = some ⟨0, [x, y]⟩) (hlo : m.lo ≤ o) : aSt 2 (.pointer (some ⟨o, 0, none⟩)) (.agg #[.int .i64 a, .int .i64 b]) m = some (m.set o ⟨0, [.int .i64 a, .int .i64 b]⟩) := by
  have h1 : known (.agg #[.int .i64 a, .int .i64 b]) = true := rfl
  have h2 : (Value.agg #[.int .i64 a, .int .i64 b]).cells = #[.int .i64 a, .int .i64 b] := rfl
  simp only [aSt, addr?, Option.bind_some, h1, h2, Mem.st, hg, if_pos hlo]
  rfl
theorem build00 : aBuild [(0, 1), (1, 1)] [(.int .i64 (0)), (.int .i64 (0))] [] = some (.agg #[.int .i64 0, .int .i64 0]) := rfl
theorem buildnk (n k : Int) : aBuild [(0, 1), (1, 1)] [(.int .i64 (0)), (.int .i64 (0))] [(0, .int .i64 n), (1, .int .i64 k)] = some (.agg #[.int .i64 n, .int .i64 k]) := rfl
def parseR (s : List UInt8) : Value := match parseP s with | some (n, k) => .tuple #[.agg #[.int .i64 n, .int .i64 k], .int .i64 0] | none => .tuple #[.agg #[.int .i64 0, .int .i64 0], .int .i64 7]
theorem suf_len (s : List UInt8) : (sufP s).1.length ≤ s.length := by
  by_cases h : s.length < 2
  · rw [suf_short h]; exact Nat.le_refl _
  · obtain ⟨d, c, rfl, hd⟩ := snoc_cases s (by omega)
    rw [suf_snoc d c hd]
    repeat' split
    all_goals simp
theorem parse_V {s : List UInt8} (hs : s.length < 1000000) (m : Mem) : LV CV (.call 9) [S s] m [] = some ⟨.ret, [parseR s], m, []⟩ := by
  refine R9 ?_
  have h1 := fun m => suffix_V hs m
  have hl := suf_len s
  have h2 := fun m => seconds_V (s := (sufP s).1) (by omega) m
  unfold parseR parseP
  generalize (sufP s).1 = t at *
  generalize (sufP s).2 = k at *
  generalize hM : (⟨[], m.next, m.next, 0⟩ : Mem) = M
  have hg : (M.push ⟨0, [.int .i64 0, .int .i64 0]⟩).get M.next = some ⟨0, [.int .i64 0, .int .i64 0]⟩ := by simp
  have hlo : M.lo ≤ M.next := by rw [← hM]; exact Nat.le_refl _
  unfold secR at h2
  have hst := fun (a b : Int) => aSt_two (a := a) (b := b) hg (by simpa using hlo)
  have fin : ∀ {k : Out} {x : Option Out} {v : Value}, (∃ m', x = some ⟨.ret, [v], m', []⟩) → (∀ k n m, frz (k + 6) n m v = v) → (x.bind (close m)) = some ⟨.ret, [v], m, []⟩ := by
    rintro _ x v ⟨m', rfl⟩ hv
    simp [hv]
  have fz7 : ∀ (a b c : Int) (k n : Nat) (m : Mem), frz (k + 6) n m (.tuple #[.agg #[.int .i64 a, .int .i64 b], .int .i64 c]) = .tuple #[.agg #[.int .i64 a, .int .i64 b], .int .i64 c] := fun a b c k n m => by simp
  by_cases h45 : t = [45]
  · subst h45
    by_cases hs45 : s = [45]
    · subst hs45
      rw [if_neg (by simp)]
      have ht : timeP [45] = some 0 := rfl
      rw [ht] at h2 ⊢
      refine fin (k := ⟨.ret, [], m, []⟩) ⟨?_, ?_⟩ (fz7 _ _ _)
      rotate_left
      simp only [x9]
      simp [h1, h2, ht, build00, buildnk, hst, ir9, resOfV, resLV, pack]
      rfl
    · rw [if_pos ⟨rfl, hs45⟩]
      refine fin (k := ⟨.ret, [], m, []⟩) ⟨?_, ?_⟩ (fz7 _ _ _)
      rotate_left
      simp only [x9]
      simp [h1, h2, hs45, build00, buildnk, hst, ir9, resOfV, resLV, pack]
      rfl
  · rw [if_neg (fun h => h45 h.1)]
    cases ht : timeP t with
    | none =>
      rw [ht] at h2
      refine fin (k := ⟨.ret, [], m, []⟩) ⟨?_, ?_⟩ (fz7 _ _ _)
      rotate_left
      simp only [x9]
      simp [h1, h2, h45, build00, buildnk, hst, ir9, resOfV, resLV, pack]
      rfl
    | some n =>
      rw [ht] at h2
      refine fin (k := ⟨.ret, [], m, []⟩) ⟨?_, ?_⟩ (fz7 _ _ _)
      rotate_left
      simp only [x9]
      simp [h1, h2, h45, build00, buildnk, hst, ir9, resOfV, resLV, pack]
      rfl
end Go.Proofs.YtbccdlbibcbcfaaDoor.D
