import Derived.Test.YtibklmjoepckdaaDoorK2
namespace Go.Proofs.YtibklmjoepckdaaDoor.D
open Go.RowKit
set_option linter.unusedVariables false
set_option linter.unusedSimpArgs false
theorem find_V {s : List UInt8} {ws : List (List UInt8)} (tt : Bool) (hn : ws.length < 1000000000) (hs : s.length < 1000000000) (m : Mem) : LV CV (.call 31) [S s, fz 1 tt (ws.map es)] m [] = some ⟨.ret, [.int .i64 (findW s ws)], m, []⟩ := by
  refine R31 ?_
  unfold findW
  by_cases h0 : small s = []
  · have hl : ∀ (k i : Nat) (m : Mem), i + k = ws.length → LV CV (.loop 3100) [S [], fz 1 tt (ws.map es), .int .i64 0, .int .i64 0, .int .i64 0, .int .i64 i] m [] = some ⟨.exit 0, [S [], fz 1 tt (ws.map es), .int .i64 0, .int .i64 0, .int .i64 0, .int .i64 ws.length], m, []⟩ := by
      intro k
      induction k with
      | zero => intro i m hi; obtain rfl : i = ws.length := by omega
                exact Q3100 (by simp [y3100])
      | succ k ih =>
        intro i m hi
        have hw : IntKind.wrap .i64 ((i : Int) + 1) = (i : Int) + 1 := wrap_i64 (by omega) (by omega)
        have hi2 := ih (i + 1) m (by omega)
        rw [Int.natCast_add, Int.natCast_one] at hi2
        have hlt : i < ws.length := by omega
        exact Q3100 (by simp [y3100, hlt, hw, hi2])
    have e := hl ws.length 0 ⟨[], m.next, m.next, 0⟩ (by omega)
    simp only [Int.natCast_zero] at e
    simp [x31, rsmall_V hs, h0, e]
  · rcases find_loop (small s) h0 ws tt hn (by rw [small_len]; exact hs) ⟨[], m.next, m.next, 0⟩ ws 0 (.int .i64 0) 0 0 rfl (by omega) (Nat.le_refl _) with ⟨b, c, d, e⟩ | ⟨b, a', n', e, e2⟩
    · simp only [Int.natCast_zero] at e
      simp [x31, rsmall_V hs, h0, e]
    · simp only [Int.natCast_zero] at e
      by_cases h1 : n' = 1
      · simp [x31, rsmall_V hs, h0, e, e2, h1]
      · simp [x31, rsmall_V hs, h0, e, e2, h1]
theorem head_V {s : List UInt8} (hs : s.length < 1000000000) (m : Mem) : LV CV (.call 14) [S s] m [] = some ⟨.ret, [.int .i64 (oneW s headW)], m, []⟩ := by
  refine R14 ?_
  have e : ∀ m, vLit 1 3 [(S [])] [(0, (S [114, 117, 108, 101])), (1, (S [122, 111, 110, 101])), (2, (S [108, 105, 110, 107]))] m = some (fz 1 true (headW.map es), m) := fun m => rfl
  simp [x14, e, one_V true (ws := headW) (by decide) hs]
theorem rhead_V {s : List UInt8} (hs : s.length < 1000000000) (m : Mem) : LV CV (.call 15) [S s] m [] = some ⟨.ret, [.int .i64 (findW s headW)], m, []⟩ := by
  refine R15 ?_
  have e : ∀ m, vLit 1 3 [(S [])] [(0, (S [114, 117, 108, 101])), (1, (S [122, 111, 110, 101])), (2, (S [108, 105, 110, 107]))] m = some (fz 1 true (headW.map es), m) := fun m => rfl
  simp [x15, e, find_V true (ws := headW) (by decide) hs]
@[simp] theorem months_V (m : Mem) : LV CV (.call 32) [] m [] = some ⟨.ret, [fz 1 true (monthW.map es)], m, []⟩ := by
  refine R32 ?_
  have e : ∀ m, LV CV (.call 44) [(S [106, 97, 110, 117, 97, 114, 121, 32, 102, 101, 98, 114, 117, 97, 114, 121, 32, 109, 97, 114, 99, 104, 32, 97, 112, 114, 105, 108, 32, 109, 97, 121, 32, 106, 117, 110, 101, 32, 106, 117, 108, 121, 32, 97, 117, 103, 117, 115, 116, 32, 115, 101, 112, 116, 101, 109, 98, 101, 114, 32, 111, 99, 116, 111, 98, 101, 114, 32, 110, 111, 118, 101, 109, 98, 101, 114, 32, 100, 101, 99, 101, 109, 98, 101, 114])] m [] = some ⟨.ret, [fz 1 true (monthW.map es)], m, []⟩ := fun m => by
    rw [L_g (k := .strs gFields) (by rfl)]
    rfl
  simp [x32, e]
@[simp] theorem rmonths_V (m : Mem) : LV CV (.call 33) [] m [] = some ⟨.ret, [fz 1 true (monthW.map es)], m, []⟩ := by
  refine R33 ?_
  have e : ∀ m, vLit 1 12 [(S [])] [(0, (S [106, 97, 110, 117, 97, 114, 121])), (1, (S [102, 101, 98, 114, 117, 97, 114, 121])), (2, (S [109, 97, 114, 99, 104])), (3, (S [97, 112, 114, 105, 108])), (4, (S [109, 97, 121])), (5, (S [106, 117, 110, 101])), (6, (S [106, 117, 108, 121])), (7, (S [97, 117, 103, 117, 115, 116])), (8, (S [115, 101, 112, 116, 101, 109, 98, 101, 114])), (9, (S [111, 99, 116, 111, 98, 101, 114])), (10, (S [110, 111, 118, 101, 109, 98, 101, 114])), (11, (S [100, 101, 99, 101, 109, 98, 101, 114]))] m = some (fz 1 true (monthW.map es), m) := fun m => rfl
  simp [x33, e]
theorem month_V {s : List UInt8} (hs : s.length < 1000000000) (m : Mem) : LV CV (.call 16) [S s] m [] = some ⟨.ret, [.int .i64 (oneW s monthW)], m, []⟩ := by
  refine R16 ?_
  simp [x16, one_V true (ws := monthW) (by decide) hs]
theorem rmonth_V {s : List UInt8} (hs : s.length < 1000000000) (m : Mem) : LV CV (.call 17) [S s] m [] = some ⟨.ret, [.int .i64 (findW s monthW)], m, []⟩ := by
  refine R17 ?_
  simp [x17, find_V true (ws := monthW) (by decide) hs]
theorem string_strOf (ns : List Int) : (.string (strOf ns) : Value) = S (ns.map fun n => UInt8.ofNat n.toNat) := rfl
theorem showMonth_V (a : Int) (m : Mem) : LV CV (.call 18) [.int .i64 a] m [] = some ⟨.ret, [S (shortW a)], m, []⟩ := by
  refine R18 ?_
  by_cases h1 : a < 1
  · have : shortW a = [] := by unfold shortW; rw [if_neg (by omega)]
    simp [x18, h1, this]
  · by_cases h2 : 12 < a
    · have : shortW a = [] := by unfold shortW; rw [if_neg (by omega)]
      simp [x18, h1, h2, this]
    · have hcase : a = 1 ∨ a = 2 ∨ a = 3 ∨ a = 4 ∨ a = 5 ∨ a = 6 ∨ a = 7 ∨ a = 8 ∨ a = 9 ∨ a = 10 ∨ a = 11 ∨ a = 12 := by omega
      have w : ∀ n : Int, 0 ≤ n → n ≤ 100 → IntKind.wrap .i64 n = n := fun n h h2 => wrap_i64 (by omega) (by omega)
      have c1 : aBin .andNot (.int .u8 106) (.int .u8 32) = some (.int .u8 74) := rfl
      have c2 : aBin .andNot (.int .u8 102) (.int .u8 32) = some (.int .u8 70) := rfl
      have c3 : aBin .andNot (.int .u8 109) (.int .u8 32) = some (.int .u8 77) := rfl
      have c4 : aBin .andNot (.int .u8 97) (.int .u8 32) = some (.int .u8 65) := rfl
      have c5 : aBin .andNot (.int .u8 115) (.int .u8 32) = some (.int .u8 83) := rfl
      have c6 : aBin .andNot (.int .u8 111) (.int .u8 32) = some (.int .u8 79) := rfl
      have c7 : aBin .andNot (.int .u8 110) (.int .u8 32) = some (.int .u8 78) := rfl
      have c8 : aBin .andNot (.int .u8 100) (.int .u8 32) = some (.int .u8 68) := rfl
      rcases hcase with rfl | rfl | rfl | rfl | rfl | rfl | rfl | rfl | rfl | rfl | rfl | rfl <;>
        simp [x18, shortW, monthW, w, es, c1, c2, c3, c4, c5, c6, c7, c8, st_one, putL, vStr, aStr, Mem.at_, u8s, string_strOf]
theorem rshowMonth_V (a : Int) (m : Mem) : LV CV (.call 19) [.int .i64 a] m [] = some ⟨.ret, [S (shortW a)], m, []⟩ := by
  refine R19 ?_
  by_cases h1 : a < 1
  · have : shortW a = [] := by unfold shortW; rw [if_neg (by omega)]
    simp [x19, h1, this]
  · by_cases h2 : 12 < a
    · have : shortW a = [] := by unfold shortW; rw [if_neg (by omega)]
      simp [x19, h1, h2, this]
    · have hcase : a = 1 ∨ a = 2 ∨ a = 3 ∨ a = 4 ∨ a = 5 ∨ a = 6 ∨ a = 7 ∨ a = 8 ∨ a = 9 ∨ a = 10 ∨ a = 11 ∨ a = 12 := by omega
      have w : ∀ n : Int, 0 ≤ n → n ≤ 100 → IntKind.wrap .i64 n = n := fun n h h2 => wrap_i64 (by omega) (by omega)
      have w2 : ∀ n : Int, 0 ≤ n → n ≤ 100 → IntKind.wrap .u8 n = n := fun n h h2 => wrap_u8 (by omega) (by omega)
      rcases hcase with rfl | rfl | rfl | rfl | rfl | rfl | rfl | rfl | rfl | rfl | rfl | rfl <;>
        simp [x19, shortW, monthW, w, w2, es, vStr, u8s, string_strOf]
theorem words_V {s : List UInt8} (a : Int) (m : Mem) : LV CV (.call 5) [S s, .int .i64 a] m [] = some ⟨.ret, [.bool true], m, []⟩ := by
  refine R5 ?_
  by_cases h : (200 : Int) < s.length
  · simp [x5, h]
  · have hs : s.length < 1000000000 := by omega
    simp [x5, h, head_V hs, rhead_V hs, month_V hs, rmonth_V hs, showMonth_V, rshowMonth_V, one_find]
end Go.Proofs.YtibklmjoepckdaaDoor.D
