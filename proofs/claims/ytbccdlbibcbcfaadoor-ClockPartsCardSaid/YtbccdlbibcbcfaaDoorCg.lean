/-
  The law ClockParts.
-/
import Derived.Test.YtbccdlbibcbcfaaDoorCf
namespace Go.Proofs.YtbccdlbibcbcfaaDoor.D
open Go.RowKit
set_option linter.unusedVariables false
set_option linter.unusedSimpArgs false
/-- The hours, in two digits or three. -/
def hh (h : Nat) : List UInt8 := if 99 < h then [dg (h / 100), dg (h / 10 % 10), dg (h % 10)] else [dg (h / 10 % 10), dg (h % 10)]
def partT (low : Bool) (h m x : Nat) : List UInt8 := (if low = true then [45] else []) ++ hh h ++ [58, dg (m / 10), dg (m % 10)] ++ [58, dg (x / 10), dg (x % 10)]
theorem hh_num {h : Nat} (h1 : h < 168) : numP 1 3 167 (hh h) = some h := by
  unfold hh
  by_cases h2 : 99 < h
  · rw [if_pos h2]
    unfold numP
    rw [val3 (by omega) (by omega) (by omega)]
    have e : (h / 100 * 10 + h / 10 % 10) * 10 + h % 10 = h := by omega
    rw [e, if_pos]
    simp [isD_dg (d := h / 100) (by omega), isD_dg (d := h / 10 % 10) (by omega), isD_dg (d := h % 10) (by omega)]
    omega
  · rw [if_neg h2]
    unfold numP
    rw [val2 (by omega) (by omega)]
    have e : h / 10 % 10 * 10 + h % 10 = h := by omega
    rw [e, if_pos]
    simp [isD_dg (d := h / 10 % 10) (by omega), isD_dg (d := h % 10) (by omega)]
    omega
theorem hh_dg {h : Nat} (h1 : h < 168) : ∀ c ∈ hh h, ∃ d, d < 10 ∧ c = dg d := by
  unfold hh
  intro c hc
  split at hc
  · simp at hc
    rcases hc with rfl | rfl | rfl
    · exact ⟨_, by omega, rfl⟩
    · exact ⟨_, by omega, rfl⟩
    · exact ⟨_, by omega, rfl⟩
  · simp at hc
    rcases hc with rfl | rfl
    · exact ⟨_, by omega, rfl⟩
    · exact ⟨_, by omega, rfl⟩
theorem hh_head (h : Nat) : ∃ d t, hh h = dg d :: t ∧ (h < 168 → d < 10) ∧ t ≠ [] := by
  unfold hh
  split
  · exact ⟨_, _, rfl, fun _ => by omega, by simp⟩
  · exact ⟨_, _, rfl, fun _ => by omega, by simp⟩
theorem part_sec {h m x : Nat} (h1 : h < 168) (h2 : m < 60) (h3 : x < 60) : secP (splitC 58 (hh h ++ [58, dg (m / 10), dg (m % 10)] ++ [58, dg (x / 10), dg (x % 10)])) = some (h * 3600 + m * 60 + x) := by
  have e : hh h ++ [58, dg (m / 10), dg (m % 10)] ++ [58, dg (x / 10), dg (x % 10)] = hh h ++ 58 :: ([dg (m / 10), dg (m % 10)] ++ 58 :: [dg (x / 10), dg (x % 10)]) := by simp
  rw [e, splitC_at 58 _ _ (no58 (hh_dg h1)), splitC_at 58 _ _ (no58 (two_dg m h2)), splitC_no 58 _ (no58 (two_dg x h3))]
  simp only [secP, hh_num h1, num_pair h2, num_pair h3, Option.bind_some, Option.map_some]
def sgn (low : Bool) (n : Nat) : Int := if low = true then -(n : Int) else n
theorem part_time {low : Bool} {h m x : Nat} (h1 : h < 168) (h2 : m < 60) (h3 : x < 60) : timeP (partT low h m x) = some (sgn low (h * 3600 + m * 60 + x)) ∧ partT low h m x ≠ [45] := by
  obtain ⟨d, t, e, hd, ht⟩ := hh_head h
  have hs := part_sec h1 h2 h3
  cases low with
  | true =>
    have e2 : partT true h m x = 45 :: (hh h ++ [58, dg (m / 10), dg (m % 10)] ++ [58, dg (x / 10), dg (x % 10)]) := by unfold partT; simp
    have hne : partT true h m x ≠ [45] := by rw [e2, e]; simp
    refine ⟨?_, hne⟩
    unfold timeP
    rw [if_neg hne, e2, if_pos (by simp)]
    simp only [List.drop_succ_cons, List.drop_zero]
    rw [hs]
    rfl
  | false =>
    have e2 : partT false h m x = hh h ++ [58, dg (m / 10), dg (m % 10)] ++ [58, dg (x / 10), dg (x % 10)] := by unfold partT; simp
    have hne : partT false h m x ≠ [45] := by rw [e2, e]; simp
    refine ⟨?_, hne⟩
    unfold timeP
    rw [if_neg hne, e2, if_neg]
    · rw [hs]; rfl
    · rw [e]
      rintro ⟨u, hu⟩
      simp at hu
      exact dg_ne (hd h1) (.inl (by decide)) hu.1.symm
theorem part_len (low : Bool) (h m x : Nat) : (partT low h m x).length ≤ 10 ∧ 1 ≤ (partT low h m x).length := by
  unfold partT hh
  by_cases h9 : 99 < h
  · cases low <;> simp [h9]
  · cases low <;> simp [h9]
theorem part_suf {low : Bool} {h m x : Nat} (h1 : h < 168) (h2 : m < 60) (h3 : x < 60) (c : UInt8) (k : Int) (hc : c = 119 ∧ k = 0 ∨ c = 115 ∧ k = 1 ∨ c = 117 ∧ k = 2 ∨ c = 103 ∧ k = 2 ∨ c = 122 ∧ k = 2) : parseP (partT low h m x ++ [c]) = some (sgn low (h * 3600 + m * 60 + x), k) := by
  obtain ⟨ht, hne⟩ := part_time (low := low) h1 h2 h3
  have hs : sufP (partT low h m x ++ [c]) = (partT low h m x, k) := by
    rw [suf_snoc _ c (part_len low h m x).2]
    rcases hc with ⟨rfl, rfl⟩ | ⟨rfl, rfl⟩ | ⟨rfl, rfl⟩ | ⟨rfl, rfl⟩ | ⟨rfl, rfl⟩ <;> rfl
  unfold parseP
  rw [hs]
  simp only
  rw [if_neg (fun h => hne h.1), ht]
  rfl
theorem part_none {low : Bool} {h m x : Nat} (h1 : h < 168) (h2 : m < 60) (h3 : x < 60) : parseP (partT low h m x) = some (sgn low (h * 3600 + m * 60 + x), 0) := by
  obtain ⟨ht, hne⟩ := part_time (low := low) h1 h2 h3
  have hq : x % 10 < 10 := by omega
  have hs : sufP (partT low h m x) = (partT low h m x, 0) := by
    have e : partT low h m x = ((if low = true then [45] else []) ++ hh h ++ [58, dg (m / 10), dg (m % 10)] ++ [58, dg (x / 10)]) ++ [dg (x % 10)] := by unfold partT; simp
    rw [e, suf_snoc _ _ (by simp; omega), if_neg (dg_ne hq (.inr (by decide))), if_neg (dg_ne hq (.inr (by decide))), if_neg (dg_ne hq (.inr (by decide))), if_neg (dg_ne hq (.inr (by decide))), if_neg (dg_ne hq (.inr (by decide)))]
  unfold parseP
  rw [hs]
  simp only
  rw [if_neg (fun h => hne h.1), ht]
  rfl
theorem digit_V {d : Nat} (h : d < 10) (m : Mem) : LV CV (.call 14) [.int .i64 d] m [] = some ⟨.ret, [S [dg d]], m, []⟩ := by
  refine R14 ?_
  have w1 : IntKind.wrap .i64 (48 + (d : Int)) = 48 + (d : Int) := wrap_i64 (by omega) (by omega)
  have w2 : IntKind.wrap .u8 (48 + (d : Int)) = 48 + (d : Int) := wrap_u8 (by omega) (by omega)
  have hs := fun m => str1 (a := d) h m
  simp [x14, w1, w2, hs]
def want5 : Value := fz 1 true [[.int .i64 0], [.int .i64 1], [.int .i64 2], [.int .i64 2], [.int .i64 2]]
theorem want5_lit (m : Mem) : vLit 1 5 [(.int .i64 (0))] [(0, (.int .i64 (0))), (1, (.int .i64 (1))), (2, (.int .i64 (2))), (3, (.int .i64 (2))), (4, (.int .i64 (2)))] m = some (want5, m) := rfl
theorem parts_step {s : List UInt8} {n : Int} {i : Nat} {c : UInt8} {w : Int} {u : Value} (hs : s.length ≤ 10) (hi : i < 5) (hc : aCutStr (S [119, 115, 117, 103, 122]) (some (.int .i64 i)) (some (.int .i64 ((i : Int) + 1))) = some (S [c])) (hw : ∃ v, vIdx 1 want5 (.int .i64 i) = some v ∧ ∀ m, vLd 1 false v m = some (.int .i64 w))
    (hp : parseP (s ++ [c]) = some (n, w))
    (h : ∀ m : Mem, m.lo ≤ m.next → ∃ m', m'.lo ≤ m'.next ∧ LV CV (.loop 500) [u, S s, .int .i64 n, .int .i64 ((i : Int) + 1)] m [] = some ⟨.exit 0, [u, S s, .int .i64 n, .int .i64 5], m', []⟩) :
    ∀ m : Mem, m.lo ≤ m.next → ∃ m', m'.lo ≤ m'.next ∧ LV CV (.loop 500) [u, S s, .int .i64 n, .int .i64 i] m [] = some ⟨.exit 0, [u, S s, .int .i64 n, .int .i64 5], m', []⟩ := by
  intro m hm
  have hi' : (i : Int) < 5 := by omega
  have hwr : IntKind.wrap .i64 ((i : Int) + 1) = (i : Int) + 1 := wrap_i64 (by omega) (by omega)
  have p := fun m => parse_V (s := s ++ [c]) (by simp; omega) m
  unfold parseR at p
  rw [hp] at p
  have g : (m.push ⟨0, [.int .i64 0, .int .i64 0]⟩).get m.next = some ⟨0, [.int .i64 0, .int .i64 0]⟩ := by simp
  have s1 := aSt_two (a := n) (b := w) g (by simpa using hm)
  have q1 : ((m.push ⟨0, [.int .i64 0, .int .i64 0]⟩).set m.next ⟨0, [.int .i64 n, .int .i64 w]⟩).get m.next = some ⟨0, [.int .i64 n, .int .i64 w]⟩ := by rw [Mem.get_set, if_pos rfl]
  obtain ⟨v, v1, v2⟩ := hw
  obtain ⟨m', hm', e⟩ := h ((m.push ⟨0, [.int .i64 0, .int .i64 0]⟩).set m.next ⟨0, [.int .i64 n, .int .i64 w]⟩) (by simp; omega)
  have hl : s.length + 1 ≤ 4611686018427387904 := by omega
  have hl2 : s.length ≤ 4611686018427387903 := by omega
  refine ⟨m', hm', Q500 ?_⟩
  simp only [y500]
  simp only [want5_lit]
  generalize S [119, 115, 117, 103, 122] = Z at *
  simp [hi', hwr, hc, hl, hl2, p, s1, v1, v2, q1, e]
theorem kparts_loop {s : List UInt8} {n : Int} {u : Value} (hs : s.length ≤ 10) (hp : ∀ c w, (c = 119 ∧ w = 0 ∨ c = 115 ∧ w = 1 ∨ c = 117 ∧ w = 2 ∨ c = 103 ∧ w = 2 ∨ c = 122 ∧ w = 2) → parseP (s ++ [c]) = some (n, w)) :
    ∀ m : Mem, m.lo ≤ m.next → ∃ m', m'.lo ≤ m'.next ∧ LV CV (.loop 500) [u, S s, .int .i64 n, .int .i64 0] m [] = some ⟨.exit 0, [u, S s, .int .i64 n, .int .i64 5], m', []⟩ := by
  refine parts_step (i := 0) (c := 119) (w := 0) hs (by omega) rfl ⟨_, rfl, fun m => rfl⟩ (hp _ _ (.inl ⟨rfl, rfl⟩)) ?_
  refine parts_step (i := 1) (c := 115) (w := 1) hs (by omega) rfl ⟨_, rfl, fun m => rfl⟩ (hp _ _ (.inr (.inl ⟨rfl, rfl⟩))) ?_
  refine parts_step (i := 2) (c := 117) (w := 2) hs (by omega) rfl ⟨_, rfl, fun m => rfl⟩ (hp _ _ (.inr (.inr (.inl ⟨rfl, rfl⟩)))) ?_
  refine parts_step (i := 3) (c := 103) (w := 2) hs (by omega) rfl ⟨_, rfl, fun m => rfl⟩ (hp _ _ (.inr (.inr (.inr (.inl ⟨rfl, rfl⟩))))) ?_
  refine parts_step (i := 4) (c := 122) (w := 2) hs (by omega) rfl ⟨_, rfl, fun m => rfl⟩ (hp _ _ (.inr (.inr (.inr (.inr ⟨rfl, rfl⟩))))) ?_
  intro m hm
  refine ⟨m, hm, Q500 ?_⟩
  simp [y500]
end Go.Proofs.YtbccdlbibcbcfaaDoor.D
