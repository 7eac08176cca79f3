import Derived.Test.YtibklmjoepckdaaDoorK5
namespace Go.Proofs.YtibklmjoepckdaaDoor.D
open Go.RowKit
set_option linter.unusedVariables false
set_option linter.unusedSimpArgs false
theorem cb_ofNat {d : Nat} (h : d < 10) : (Value.int .u8 ((48 : Int) + (d : Int))) = cb (UInt8.ofNat (48 + d)) := by
  rw [cb_eq, ofNat_toNat (by omega)]
  congr 1
theorem int_loop (b0 : Value) {o : Nat} : ∀ (k u a : Nat) (suf : List UInt8) (cells : List Value) (m : Mem), u < 10 ^ (k + 1) → k + 1 ≤ a → a ≤ 20 → m.get o = some ⟨1, cells⟩ → cells.length = 20 → cells.drop a = suf.map cb → m.lo ≤ o → u < 1000000000000000000 →
    ∃ m' a' cells', LV CV (.loop 3700) [b0, .pointer (some ⟨o, 0, none⟩), .int .i64 a, .int .u64 u] m [] = some ⟨.exit 0, [b0, .pointer (some ⟨o, 0, none⟩), .int .i64 (a' : Nat), .int .u64 0], m', []⟩ ∧ m'.get o = some ⟨1, cells'⟩ ∧ cells'.length = 20 ∧ cells'.drop a' = (decP u ++ suf).map cb ∧ a' ≤ 20 := by
  intro k
  induction k with
  | zero =>
    intro u a suf cells m hu hk ha hg hc hd hlo hu2
    have hu10 : u < 10 := by simpa using hu
    have w1 : IntKind.wrap .i64 ((a : Int) - 1) = ((a - 1 : Nat) : Int) := by rw [wrap_i64 (by omega) (by omega)]; omega
    have r1 : (u : Int).tmod 10 = (u : Int) := Int.tmod_eq_of_lt (by omega) (by omega)
    have w2 : IntKind.wrap .u64 (48 + (u : Int)) = 48 + (u : Int) := wrap_u64 (by omega) (by omega)
    have w3 : IntKind.wrap .u8 (48 + (u : Int)) = 48 + (u : Int) := wrap_u8 (by omega) (by omega)
    have q1 : (u : Int).tdiv 10 = 0 := Int.tdiv_eq_zero_of_lt (by omega) (by omega)
    have w4 : IntKind.wrap .u64 0 = 0 := wrap_u64 (by omega) (by omega)
    have hlt : (((a - 1 : Nat) : Int)) < 20 := by omega
    have hst : m.st o (a - 1) [.int .u8 (48 + (u : Int))] = some (m.set o ⟨1, putL cells (a - 1) [cb (UInt8.ofNat (48 + u))]⟩) := by
      rw [cb_ofNat hu10]; exact st_some hg hlo (by simp only [hc]; omega)
    refine ⟨m.set o ⟨1, putL cells (a - 1) [cb (UInt8.ofNat (48 + u))]⟩, a - 1, putL cells (a - 1) [cb (UInt8.ofNat (48 + u))], Q3700 ?_, by simp, by rw [putL_length, hc], ?_, by omega⟩
    · generalize hA : a - 1 = A at *
      generalize UInt8.ofNat (48 + u) = cc at *
      simp [y3700, w1, r1, w2, w3, q1, w4, vIdxArr, aIdxArr, addr?, hlt, hst]
    · rw [decP_lt hu10]
      simp only [putL]
      rw [List.drop_set]
      rw [if_neg (by omega), Nat.sub_self]
      rw [List.drop_eq_getElem_cons (by omega : a - 1 < cells.length), show a - 1 + 1 = a by omega, hd]
      simp
  | succ k ih =>
    intro u a suf cells m hu hk ha hg hc hd hlo hu2
    by_cases hu10 : u < 10
    · exact (ih u a suf cells m (Nat.lt_of_lt_of_le hu10 (by have := Nat.pow_le_pow_right (n := 10) (by decide) (Nat.succ_le_succ (Nat.zero_le k)); simpa using this)) (by omega) ha hg hc hd hlo hu2)
    · have hu0 := hu
      have w1 : IntKind.wrap .i64 ((a : Int) - 1) = ((a - 1 : Nat) : Int) := by rw [wrap_i64 (by omega) (by omega)]; omega
      have r1 : (u : Int).tmod 10 = ((u % 10 : Nat) : Int) := by rw [Int.tmod_eq_emod_of_nonneg (by omega)]; rfl
      have w2 : IntKind.wrap .u64 (48 + ((u % 10 : Nat) : Int)) = 48 + ((u % 10 : Nat) : Int) := wrap_u64 (by omega) (by omega)
      have w3 : IntKind.wrap .u8 (48 + ((u % 10 : Nat) : Int)) = 48 + ((u % 10 : Nat) : Int) := wrap_u8 (by omega) (by omega)
      have q1 : (u : Int).tdiv 10 = ((u / 10 : Nat) : Int) := by rw [Int.tdiv_eq_ediv_of_nonneg (by omega)]; rfl
      have w4 : IntKind.wrap .u64 ((u / 10 : Nat) : Int) = ((u / 10 : Nat) : Int) := wrap_u64 (by omega) (by omega)
      have hlt : (((a - 1 : Nat) : Int)) < 20 := by omega
      have hst : m.st o (a - 1) [.int .u8 (48 + ((u % 10 : Nat) : Int))] = some (m.set o ⟨1, putL cells (a - 1) [cb (UInt8.ofNat (48 + u % 10))]⟩) := by
        rw [cb_ofNat (by omega)]; exact st_some hg hlo (by simp only [hc]; omega)
      have hne : ¬ ((u / 10 : Nat) : Int) = 0 := by omega
      obtain ⟨m', a', cells', e1, e2, e3, e4, e5⟩ := ih (u / 10) (a - 1) (UInt8.ofNat (48 + u % 10) :: suf) (putL cells (a - 1) [cb (UInt8.ofNat (48 + u % 10))]) (m.set o ⟨1, putL cells (a - 1) [cb (UInt8.ofNat (48 + u % 10))]⟩) (by rw [Nat.pow_succ] at hu; omega) (by omega) (by omega) (by simp) (by rw [putL_length, hc]) (by
        simp only [putL]
        rw [List.drop_set, if_neg (by omega), Nat.sub_self, List.drop_eq_getElem_cons (by omega : a - 1 < cells.length), show a - 1 + 1 = a by omega, hd]
        simp) hlo (by omega)
      refine ⟨m', a', cells', Q3700 ?_, e2, e3, ?_, e5⟩
      · generalize hA : a - 1 = A at *
        generalize hUq : u / 10 = U at *
        generalize hUr : u % 10 = D at *
        generalize UInt8.ofNat (48 + D) = cc at *
        have hne2 : ¬ U = 0 := by omega
        simp only [cb_eq] at e1 hst
        simp [y3700, w1, r1, w2, w3, q1, w4, vIdxArr, aIdxArr, addr?, hlt, hst, hne, hne2, e1]
      · rw [e4, decP_ge (n := u) (by omega)]; simp
theorem escInt_V {n : Nat} (hn : n < 1000000000000000000) (m : Mem) : LV CV (.call 37) [.int .i64 n] m [] = some ⟨.ret, [S (decP n)], m, []⟩ := by
  refine R37 ?_
  obtain ⟨m', a', cells', e1, e2, e3, e4, e5⟩ := int_loop (.int .i64 n) (o := m.next) 17 n 20 [] (List.replicate 20 (.int .u8 0)) ((⟨[], m.next, m.next, 0⟩ : Mem).push ⟨1, List.replicate 20 (.int .u8 0)⟩) (by simpa using hn) (by omega) (by omega) (by simp) (by simp) (by simp) (by simp) hn
  have w1 : IntKind.wrap .u64 (n : Int) = n := wrap_u64 (by omega) (by omega)
  have hneg : ¬ (n : Int) < 0 := by omega
  have hrep : List.replicate 20 (Value.int .u8 0) = [(.int .u8 (0)), (.int .u8 (0)), (.int .u8 (0)), (.int .u8 (0)), (.int .u8 (0)), (.int .u8 (0)), (.int .u8 (0)), (.int .u8 (0)), (.int .u8 (0)), (.int .u8 (0)), (.int .u8 (0)), (.int .u8 (0)), (.int .u8 (0)), (.int .u8 (0)), (.int .u8 (0)), (.int .u8 (0)), (.int .u8 (0)), (.int .u8 (0)), (.int .u8 (0)), (.int .u8 (0))] := rfl
  rw [hrep, show ((20 : Nat) : Int) = 20 from rfl] at e1
  have hcut : aCutArr 20 1 (.pointer (some ⟨m.next, 0, none⟩)) (some (.int .i64 (a' : Nat))) none m' = some (.slice (some ⟨m.next, a', none⟩) (20 - a') (20 - a')) := by
    simp [aCutArr, addr?, e2, e3, e5]
  have hs := vStr_at (m := m') (o := m.next) (off := a') (n := 20 - a') (c := 20 - a') (l := decP n) e2 (by
    rw [e4]; simp only [List.append_nil]
    rw [List.take_of_length_le]
    · rfl
    · have := congrArg List.length e4; simp only [List.length_drop, e3, List.append_nil] at this; rw [← this]; exact Nat.le_refl _) (by rw [e3]; omega)
  simp [x37, w1, hneg, e1, hcut, hs]
theorem digits_V : ∀ (k n : Nat), n < k → n < 1000000000000000000 → ∀ m, LV CV (.call 46) [.int .i64 (-(n : Int))] m [] = some ⟨.ret, [S (decP n)], m, []⟩ := by
  intro k
  induction k with
  | zero => intro n h; omega
  | succ k ih =>
    intro n h hn m
    refine R46 ?_
    have r1 : (-(n : Int)).tmod 10 = -((n % 10 : Nat) : Int) := by rw [Int.neg_tmod, Int.tmod_eq_emod_of_nonneg (by omega)]; rfl
    have w1 : IntKind.wrap .i64 (48 + ((n % 10 : Nat) : Int)) = 48 + ((n % 10 : Nat) : Int) := by rw [wrap_i64 (by omega) (by omega)]
    have w2 : IntKind.wrap .u8 (48 + ((n % 10 : Nat) : Int)) = 48 + ((n % 10 : Nat) : Int) := wrap_u8 (by omega) (by omega)
    have hstr : ∀ m, vStr (fz 1 true [[.int .u8 (48 + ((n % 10 : Nat) : Int))]]) m = some (S [UInt8.ofNat (48 + n % 10)]) := fun m => by
      rw [cb_ofNat (by omega)]
      have := vStr_sq true true [UInt8.ofNat (48 + n % 10)] m
      simpa [sq, eb] using this
    by_cases h10 : n < 10
    · have hg : (-10 : Int) < -(n : Int) := by omega
      rw [decP_lt h10]
      have e : n % 10 = n := Nat.mod_eq_of_lt h10
      rw [e] at r1 w1 w2 hstr
      generalize UInt8.ofNat (48 + n) = cc at *
      simp [x46, r1, w1, w2, hstr, hg]
    · have hg : ¬ (-10 : Int) < -(n : Int) := by omega
      have q1 : (-(n : Int)).tdiv 10 = -((n / 10 : Nat) : Int) := by rw [Int.neg_tdiv, Int.tdiv_eq_ediv_of_nonneg (by omega)]; rfl
      have w3 : IntKind.wrap .i64 (-((n / 10 : Nat) : Int)) = -((n / 10 : Nat) : Int) := wrap_i64 (by omega) (by omega)
      have hi := fun m => ih (n / 10) (by omega) (by omega) m
      have hlen := decP_len 17 (n / 10) (by omega)
      rw [decP_ge (by omega)]
      have hl2 : (decP (n / 10)).length + 1 ≤ 4611686018427387904 := by omega
      generalize hD : n % 10 = D at *
      generalize hU : n / 10 = U at *
      generalize UInt8.ofNat (48 + D) = cc at *
      simp [x46, r1, w1, w2, hstr, hg, q1, w3, hi, hl2]
theorem rint_V {n : Nat} (hn : n < 1000000000000000000) (m : Mem) : LV CV (.call 38) [.int .i64 n] m [] = some ⟨.ret, [S (decP n)], m, []⟩ := by
  refine R38 ?_
  have hneg : ¬ (n : Int) < 0 := by omega
  have w1 : IntKind.wrap .i64 (-(n : Int)) = -(n : Int) := wrap_i64 (by omega) (by omega)
  have hd := fun m => digits_V (n + 1) n (by omega) hn m
  simp [x38, hneg, w1, hd]
end Go.Proofs.YtibklmjoepckdaaDoor.D
