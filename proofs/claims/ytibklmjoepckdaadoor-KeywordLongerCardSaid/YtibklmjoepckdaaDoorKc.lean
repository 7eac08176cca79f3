import Derived.Test.YtibklmjoepckdaaDoorKa
namespace Go.Proofs.YtibklmjoepckdaaDoor.D
open Go.RowKit
set_option linter.unusedVariables false
set_option linter.unusedSimpArgs false
def lgN (j L : Nat) : Nat := if L < j + 1 then L - 1 else j
def lgCut (c : UInt8) (t : List UInt8) (k : Nat) (g : Bool) : List UInt8 := (if g = true then UInt8.ofNat (c.toNat - 32) else c) :: t.take k
def lgB (i j : Nat) (g : Bool) : Bool :=
  match monthW[i]? with
  | some (c :: t) =>
    decide (97 ≤ c.toNat ∧ c.toNat ≤ 122) && decide (2 ≤ t.length ∧ t.length ≤ 8) &&
    (decide (oneW (lgCut c t (lgN j (t.length + 1)) g) monthW = 0) || decide (oneW (lgCut c t (lgN j (t.length + 1)) g) monthW = (i : Int) + 1)) &&
    (decide (oneW (lgCut c t (lgN j (t.length + 1)) g) monthW = 0) || decide (oneW ((c :: t).take (min (lgN j (t.length + 1) + 2) (t.length + 1))) monthW = (i : Int) + 1)) &&
    decide (oneW (c :: t) monthW = (i : Int) + 1) && decide (oneW (c :: t.take 2) monthW = (i : Int) + 1) && decide (oneW (shortW ((i : Int) + 1)) monthW = (i : Int) + 1)
  | _ => false
theorem lg_all : ((List.range 12).all fun i => (List.range 9).all fun j => [false, true].all fun g => lgB i j g) = true := by decide +kernel
theorem lg_facts {i j : Nat} (g : Bool) (hi : i < 12) (hj : j < 9) : ∃ c t, monthW[i]? = some (c :: t) ∧ (97 ≤ c.toNat ∧ c.toNat ≤ 122) ∧ (2 ≤ t.length ∧ t.length ≤ 8) ∧
    (oneW (lgCut c t (lgN j (t.length + 1)) g) monthW = 0 ∨ oneW (lgCut c t (lgN j (t.length + 1)) g) monthW = (i : Int) + 1) ∧
    (oneW (lgCut c t (lgN j (t.length + 1)) g) monthW = 0 ∨ oneW ((c :: t).take (min (lgN j (t.length + 1) + 2) (t.length + 1))) monthW = (i : Int) + 1) ∧
    oneW (c :: t) monthW = (i : Int) + 1 ∧ oneW (c :: t.take 2) monthW = (i : Int) + 1 ∧ oneW (shortW ((i : Int) + 1)) monthW = (i : Int) + 1 := by
  have h := List.all_eq_true.1 lg_all i (List.mem_range.2 hi)
  have h := List.all_eq_true.1 h j (List.mem_range.2 hj)
  have h := List.all_eq_true.1 h g (by cases g <;> simp)
  unfold lgB at h
  split at h
  · rename_i c t e
    simp only [Bool.and_eq_true, Bool.or_eq_true, decide_eq_true_eq] at h
    obtain ⟨⟨⟨⟨⟨⟨a1, a2⟩, a3⟩, a4⟩, a5⟩, a6⟩, a7⟩ := h
    exact ⟨c, t, e, a1, a2, a3, a4, a5, a6, a7⟩
  · cases h
theorem litMonths (m : Mem) : vLit 1 12 [(S [])] [(0, (S [106, 97, 110, 117, 97, 114, 121])), (1, (S [102, 101, 98, 114, 117, 97, 114, 121])), (2, (S [109, 97, 114, 99, 104])), (3, (S [97, 112, 114, 105, 108])), (4, (S [109, 97, 121])), (5, (S [106, 117, 110, 101])), (6, (S [106, 117, 108, 121])), (7, (S [97, 117, 103, 117, 115, 116])), (8, (S [115, 101, 112, 116, 101, 109, 98, 101, 114])), (9, (S [111, 99, 116, 111, 98, 101, 114])), (10, (S [110, 111, 118, 101, 109, 98, 101, 114])), (11, (S [100, 101, 99, 101, 109, 98, 101, 114]))] m = some (fz 1 true (monthW.map es), m) := rfl
theorem min_V (a b : Nat) : aMax false [.int .i64 (a : Int), .int .i64 (b : Int)] = some (.int .i64 ((min a b : Nat) : Int)) := by
  have e : ((min a b : Nat) : Int) = min (a : Int) (b : Int) := by omega
  rw [e]
  simp [aMax]
  split <;> omega
theorem great_V (c : UInt8) (t : List UInt8) {n : Nat} (hn : t.length = n) (hc : 97 ≤ c.toNat ∧ c.toNat ≤ 122) (o : Nat) : ∃ M, ((⟨[], o, o, 0⟩ : Mem).push ⟨1, .int .u8 c.toNat :: t.map fun b => .int .u8 b.toNat⟩).st o 0 [.int .u8 (IntKind.wrap .u8 ((c.toNat : Int) - 32))] = some M ∧ vStr (.slice (some ⟨o, 0, none⟩) (n + 1) (n + 1 + 1)) M = some (S (UInt8.ofNat (c.toNat - 32) :: t)) ∧ M.lo = o := by
  have hw : IntKind.wrap .u8 ((c.toNat : Int) - 32) = ((UInt8.ofNat (c.toNat - 32)).toNat : Int) := by
    rw [wrap_u8 (by omega) (by omega), ofNat_toNat (by omega)]; omega
  rw [hw]
  generalize UInt8.ofNat (c.toNat - 32) = x
  refine ⟨((⟨[], o, o, 0⟩ : Mem).push ⟨1, .int .u8 c.toNat :: t.map fun b => .int .u8 b.toNat⟩).set o ⟨1, .int .u8 x.toNat :: t.map fun b => .int .u8 b.toNat⟩, ?_, vStr_at (r := ⟨1, .int .u8 x.toNat :: t.map fun b => .int .u8 b.toNat⟩) (by simp) ?_ ?_, by simp⟩
  · simp [st_one, putL]
  · subst hn; simp [List.take_of_length_le]
  · subst hn; simp
theorem longer_in {i j : Nat} (hi : i < 12) (hj : j < 9) (g : Bool) (m : Mem) : LV CV (.call 6) [.int .i64 ((i : Int) + 1), .int .i64 ((j : Int) + 1), .bool g] m [] = some ⟨.ret, [.bool true], m, []⟩ := by
  refine R6 ?_
  obtain ⟨c, t, hw, hc, ht, f1, f2, f3, f4, f5⟩ := lg_facts g hi hj
  have h1 : ¬ ((i : Int) + 1 < 1) := by omega
  have h2 : ¬ (12 < (i : Int) + 1) := by omega
  have h3 : ¬ ((j : Int) + 1 < 1) := by omega
  have h4 : ¬ (9 < (j : Int) + 1) := by omega
  have w1 : IntKind.wrap .i64 (i : Int) = i := wrap_i64 (by omega) (by omega)
  have hlen : monthW.length = 12 := rfl
  have hi' : i < monthW.length := hi
  have hwi : monthW[i] = c :: t := by rw [List.getElem?_eq_getElem hi'] at hw; exact Option.some.inj hw
  have hN : lgN j (t.length + 1) ≤ t.length := by unfold lgN; split <;> omega
  have b1 : (if (t.length : Int) + 1 < (j : Int) + 1 then (t.length : Int) + 1 else (j : Int) + 1) = ((lgN j (t.length + 1) : Nat) : Int) + 1 := by
    unfold lgN
    by_cases h : t.length + 1 < j + 1
    · rw [if_pos h, if_pos (by omega)]; simp
    · rw [if_neg h, if_neg (by omega)]
  generalize lgN j (t.length + 1) = k at *
  have ls : ∀ s : List UInt8, s.length ≤ 9 → s.length < 1000000000 := fun s h => by omega
  have s1 : ∀ m, LV CV (.call 16) [S (c :: t)] m [] = some ⟨.ret, [.int .i64 ((i : Int) + 1)], m, []⟩ := fun m => by rw [month_V (ls _ (by simp; omega)), f3]
  have s2 : ∀ m, LV CV (.call 16) [S (c :: t.take 2)] m [] = some ⟨.ret, [.int .i64 ((i : Int) + 1)], m, []⟩ := fun m => by rw [month_V (ls _ (by simp; omega)), f4]
  have s3 : ∀ m, LV CV (.call 16) [S (shortW ((i : Int) + 1))] m [] = some ⟨.ret, [.int .i64 ((i : Int) + 1)], m, []⟩ := fun m => by
    rw [month_V (ls _ _), f5]
    unfold shortW
    split
    · split
      · simp; omega
      · simp
    · simp
  have s4 := fun m => month_V (s := (c :: t).take (min (k + 2) (t.length + 1))) (ls _ (by simp; omega)) m
  have s5 := fun m => month_V (s := lgCut c t k g) (ls _ (by simp [lgCut]; omega)) m
  have ht3 : 3 ≤ t.length + 1 := by omega
  have m3 : aMax false [.int .i64 3, .int .i64 ((t.length : Int) + 1)] = some (.int .i64 3) := by
    have := min_V 3 (t.length + 1)
    rw [Nat.min_eq_left ht3] at this
    exact this
  have t3 : (3 : Int) ≤ (t.length : Int) + 1 := by omega
  have ww : IntKind.wrap .i64 ((k : Int) + 1 + 1) = ((k + 2 : Nat) : Int) := by rw [wrap_i64 (by omega) (by omega)]; omega
  have mk : aMax false [.int .i64 ((k + 2 : Nat) : Int), .int .i64 ((t.length : Int) + 1)] = some (.int .i64 ((min (k + 2) (t.length + 1) : Nat) : Int)) := min_V (k + 2) (t.length + 1)
  have hcut : aHi (some (.int .i64 ((min (k + 2) (t.length + 1) : Nat) : Int))) (t.length + 1) = some (min (k + 2) (t.length + 1)) := by
    rw [aHi_int', if_pos ⟨by omega, by omega⟩]; simp
  generalize hK2 : k + 2 = K2 at *
  generalize min K2 (t.length + 1) = N at *
  generalize hp : oneW (lgCut c t k g) monthW = p at *
  generalize hq : oneW ((c :: t).take N) monthW = q at *
  have hpz : p = 0 ∨ (p = (i : Int) + 1 ∧ q = (i : Int) + 1 ∧ ¬ p = 0) := by omega
  by_cases hn : (t.length : Int) + 1 < (j : Int) + 1
  · rw [if_pos hn] at b1
    have b0 : (0 : Int) ≤ (t.length : Int) + 1 := by omega
    have ek : k = t.length := by omega
    subst ek
    cases g with
    | false =>
      have s5' : ∀ m, LV CV (.call 16) [S (c :: t)] m [] = some ⟨.ret, [.int .i64 p], m, []⟩ := by simpa [lgCut] using s5
      rcases hpz with z | ⟨z1, z2, z3⟩
      · subst z
        exfalso
        have := (s5' m).symm.trans (s1 m)
        simp at this
        omega
      · subst z1 z2
        simp [x6, h1, h2, h3, h4, litMonths, w1, hi', hwi, hn, b0, ww, mk, hcut, s1, s2, s3, s4, m3, t3, z3, showMonth_V]
    | true =>
      have s5' : ∀ m, LV CV (.call 16) [S (UInt8.ofNat (c.toNat - 32) :: t)] m [] = some ⟨.ret, [.int .i64 p], m, []⟩ := by simpa [lgCut] using s5
      obtain ⟨M, e1, e2, e3⟩ := great_V c t rfl hc m.next
      rcases hpz with z | ⟨z1, z2, z3⟩
      · subst z
        simp [x6, h1, h2, h3, h4, litMonths, w1, hi', hwi, hn, b0, ww, mk, hcut, s1, s2, s3, s4, s5', m3, t3, showMonth_V, e1, e2]
      · subst z1 z2
        simp [x6, h1, h2, h3, h4, litMonths, w1, hi', hwi, hn, b0, ww, mk, hcut, s1, s2, s3, s4, s5', m3, t3, z3, showMonth_V, e1, e2]
  · rw [if_neg hn] at b1
    have ek : j = k := by omega
    subst ek
    have b0 : (0 : Int) ≤ (j : Int) + 1 := by omega
    have hmk : min j t.length = j := by omega
    cases g with
    | false =>
      have s5' : ∀ m, LV CV (.call 16) [S (c :: t.take j)] m [] = some ⟨.ret, [.int .i64 p], m, []⟩ := by simpa [lgCut] using s5
      rcases hpz with z | ⟨z1, z2, z3⟩
      · subst z
        simp [x6, h1, h2, h3, h4, litMonths, w1, hi', hwi, hn, b0, hN, hmk, ww, mk, hcut, s1, s2, s3, s4, s5', m3, t3, showMonth_V]
      · subst z1 z2
        simp [x6, h1, h2, h3, h4, litMonths, w1, hi', hwi, hn, b0, hN, hmk, ww, mk, hcut, s1, s2, s3, s4, s5', m3, t3, z3, showMonth_V]
    | true =>
      have s5' : ∀ m, LV CV (.call 16) [S (UInt8.ofNat (c.toNat - 32) :: t.take j)] m [] = some ⟨.ret, [.int .i64 p], m, []⟩ := by simpa [lgCut] using s5
      obtain ⟨M, e1, e2, e3⟩ := great_V c (t.take j) (n := j) (by simp; omega) hc m.next
      rw [List.map_take] at e1
      rcases hpz with z | ⟨z1, z2, z3⟩
      · subst z
        simp [x6, h1, h2, h3, h4, litMonths, w1, hi', hwi, hn, b0, hN, hmk, ww, mk, hcut, s1, s2, s3, s4, s5', m3, t3, showMonth_V, e1, e2]
      · subst z1 z2
        simp [x6, h1, h2, h3, h4, litMonths, w1, hi', hwi, hn, b0, hN, hmk, ww, mk, hcut, s1, s2, s3, s4, s5', m3, t3, z3, showMonth_V, e1, e2]
theorem longer_V (a b : Int) (g : Bool) (m : Mem) : LV CV (.call 6) [.int .i64 a, .int .i64 b, .bool g] m [] = some ⟨.ret, [.bool true], m, []⟩ := by
  by_cases h1 : a < 1
  · exact R6 (by simp [x6, h1])
  by_cases h2 : 12 < a
  · exact R6 (by simp [x6, h1, h2])
  by_cases h3 : b < 1
  · exact R6 (by simp [x6, h1, h2, h3])
  by_cases h4 : 9 < b
  · exact R6 (by simp [x6, h1, h2, h3, h4])
  obtain ⟨i, rfl⟩ : ∃ i : Nat, a = (i : Int) + 1 := ⟨(a - 1).toNat, by omega⟩
  obtain ⟨j, rfl⟩ : ∃ j : Nat, b = (j : Int) + 1 := ⟨(b - 1).toNat, by omega⟩
  exact longer_in (by omega) (by omega) g m
end Go.Proofs.YtibklmjoepckdaaDoor.D
