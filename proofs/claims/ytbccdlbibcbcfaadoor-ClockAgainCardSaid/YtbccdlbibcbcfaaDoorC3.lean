/-
  The seconds of a text, as the program reads them.
-/
import Derived.Test.YtbccdlbibcbcfaaDoorC2
namespace Go.Proofs.YtbccdlbibcbcfaaDoor.D
open Go.RowKit
set_option linter.unusedVariables false
set_option linter.unusedSimpArgs false
abbrev pt (o : Nat) : Value := .pointer (some ⟨o, 0, none⟩)
theorem dc_none (a b : Value) (m : Mem) : LV CV (.dcall 23 none) [a, b] m [] = some ⟨.ret, [.bool false], m, []⟩ := by
  have h : CV.irs 23 = some ir23 := rfl
  rw [L_eqV]
  simp only [step1V, h, Option.bind_some]
  rw [if_pos (Nat.le_of_ble_eq_true rfl)]
  simp [ir23, evSV, evOpsSV, recov?, evOpV, guarded, evOp1V, vop, aop, only, aev, finSV]
theorem dc_pan {A K : Nat} {u w : Value} {m : Mem} (hA : m.get A = some ⟨0, [u]⟩) (hK : m.get K = some ⟨0, [w]⟩) (lA : m.lo ≤ A) (lK : m.lo ≤ K) (hne : K ≠ A) : LV CV (.dcall 23 (some PB)) [pt A, pt K] m [] = some ⟨.ret, [.bool true], (m.set A ⟨0, [.int .i64 0]⟩).set K ⟨0, [.int .i64 7]⟩, []⟩ := by
  have h : CV.irs 23 = some ir23 := rfl
  have hb : vIsNil .ifc true PB = some (.bool true) := rfl
  have ha : vAssert 25 false (.int .i64 0) PB = some (.int .i64 7) := rfl
  have hs1 : m.st A 0 [.int .i64 0] = some (m.set A ⟨0, [.int .i64 0]⟩) := by rw [st_some hA lA (by simp)]; rfl
  have hs2 : (m.set A ⟨0, [.int .i64 0]⟩).st K 0 [.int .i64 7] = some ((m.set A ⟨0, [.int .i64 0]⟩).set K ⟨0, [.int .i64 7]⟩) := by rw [st_some (r := ⟨0, [w]⟩) (by rw [Mem.get_set, if_neg hne]; exact hK) (by simpa using lK) (by simp)]; rfl
  rw [L_eqV]
  simp only [step1V, h, Option.bind_some]
  rw [if_pos (Nat.le_of_ble_eq_true rfl)]
  generalize PB = P at *
  simp [ir23, evSV, evOpsSV, recov?, evOpV, guarded, evOp1V, vop, aop, only, aev, finSV, evV, qOpsV, qOpV, qDoV, qRunV, qOp1V, chksV, mask, aStore_eq, hb, ha, hs1, hs2, envOf, put, (show constOk (Value.int .i64 0) = true from rfl)]
/-- Where nothing went wrong. -/
theorem lv_none {A K : Nat} {u w : Value} {env : Env} {m : Mem} (h2 : env 2 = pt A) (h3 : env 3 = pt K) (hA : m.get A = some ⟨0, [u]⟩) (hK : m.get K = some ⟨0, [w]⟩) : leavesV (LV CV) ir19 env [⟨23, [pt A, pt K]⟩] none m = some ⟨.ret, [.tuple #[u, w]], m, []⟩ := by
  unfold leavesV
  simp only [dc_none, Option.bind_some]
  unfold leavesV
  simp [ir19, resOfV, resLV, h2, h3, hA, hK, pack]
/-- Where something did. -/
theorem lv_pan {A K : Nat} {u w : Value} {env : Env} {m : Mem} (h2 : env 2 = pt A) (h3 : env 3 = pt K) (hA : m.get A = some ⟨0, [u]⟩) (hK : m.get K = some ⟨0, [w]⟩) (lA : m.lo ≤ A) (lK : m.lo ≤ K) (hne : K ≠ A) : leavesV (LV CV) ir19 env [⟨23, [pt A, pt K]⟩] (some PB) m = some ⟨.ret, [.tuple #[.int .i64 0, .int .i64 7]], (m.set A ⟨0, [.int .i64 0]⟩).set K ⟨0, [.int .i64 7]⟩, []⟩ := by
  unfold leavesV
  simp only [dc_pan hA hK lA lK hne, Option.bind_some]
  unfold leavesV
  simp [ir19, resOfV, resLV, h2, h3, hA, hK, pack, Mem.get_set, Ne.symm hne]
/-- The cells of the amount, of the kind, of the reader. -/
structure SM (m : Mem) (A K B : Nat) (n : Int) (r : List UInt8) : Prop where
  a : m.get A = some ⟨0, [.int .i64 n]⟩
  k : m.get K = some ⟨0, [.int .i64 0]⟩
  b : m.get B = some ⟨0, [S r]⟩
  la : m.lo ≤ A
  lk : m.lo ≤ K
  lb : m.lo ≤ B
  na : A < m.next
  nk : K < m.next
  nb : B < m.next
  ak : K ≠ A
  ab : B ≠ A
  kb : B ≠ K
theorem SM.read {m : Mem} {A K B : Nat} {n : Int} {r r' : List UInt8} (h : SM m A K B n r) (row : Row) : SM ((m.set B ⟨0, [S r']⟩).push row) A K B n r' := by
  obtain ⟨a, k, b, la, lk, lb, na, nk, nb, ak, ab, kb⟩ := h
  refine ⟨?_, ?_, ?_, by simpa using la, by simpa using lk, by simpa using lb, by simp; omega, by simp; omega, by simp; omega, ak, ab, kb⟩
  · rw [Mem.get_push, if_neg (by simp; omega), Mem.get_set, if_neg (Ne.symm ab)]; exact a
  · rw [Mem.get_push, if_neg (by simp; omega), Mem.get_set, if_neg (Ne.symm kb)]; exact k
  · rw [Mem.get_push, if_neg (by simp; omega), Mem.get_set, if_pos rfl]
theorem SM.setN {m : Mem} {A K B : Nat} {n : Int} {r : List UInt8} (h : SM m A K B n r) (n' : Int) : SM (m.set A ⟨0, [.int .i64 n']⟩) A K B n' r := by
  obtain ⟨a, k, b, la, lk, lb, na, nk, nb, ak, ab, kb⟩ := h
  refine ⟨by simp, ?_, ?_, by simpa using la, by simpa using lk, by simpa using lb, by simpa using na, by simpa using nk, by simpa using nb, ak, ab, kb⟩
  · rw [Mem.get_set, if_neg ak]; exact k
  · rw [Mem.get_set, if_neg ab]; exact b
@[simp] theorem eqv_int (n0 : Nat) (k : IntKind) (n : Int) : eqv n0 (.int k n) (.int k n) = true := by simp [eqv]
@[simp] theorem peekK_int (n0 : Nat) (k : IntKind) (n : Int) (x : Option Out) : peekK n0 (some (.int k n)) (.int k n) x = x := by simp [peekK]
theorem slp_end (A K B : Nat) (low : Value) (c : Nat) (arr : Value) (m : Mem) (d : List Dfr) : LV CV (.loop 1900) [pt A, pt K, low, .int .i64 c, pt B, arr, .int .i64 2] m d = some ⟨.exit 0, [pt A, pt K, low, .int .i64 c, pt B, arr, .int .i64 2], m, d⟩ := by
  refine Q1900 d ?_
  simp [y1900]
def arr2 : Value := .agg #[.int .i64 60, .int .i64 1]
theorem arr2_at {i : Nat} (h : i < 2) : aElem false 2 1 arr2 (.int .i64 i) = some (.int .i64 (if i = 0 then 60 else 1)) := by
  have : i = 0 ∨ i = 1 := by omega
  rcases this with rfl | rfl <;> rfl
theorem slp_skip {A K B : Nat} {low : Value} {c i : Nat} (hi : i < 2) (hc : c ≤ i) {m : Mem} {d : List Dfr} {r : Out} (h : LV CV (.loop 1900) [pt A, pt K, low, .int .i64 c, pt B, arr2, .int .i64 ((i : Int) + 1)] m d = some r) : LV CV (.loop 1900) [pt A, pt K, low, .int .i64 c, pt B, arr2, .int .i64 i] m d = some r := by
  have h1 : (i : Int) < 2 := by omega
  have h2 : ¬ (i : Int) < c := by omega
  have hw : IntKind.wrap .i64 ((i : Int) + 1) = (i : Int) + 1 := wrap_i64 (by omega) (by omega)
  refine Q1900 d ?_
  simp [y1900, h1, h2, arr2_at hi, hw, h]
theorem slp_num {A K B : Nat} {low : Value} {c i n : Nat} {l x r : List UInt8} (hi : i < 2) (hc : i < c) (hn : n ≤ 1000000) {m : Mem} (s : SM m A K B n l) (hx : Cutted l x r) (hl : l.length < 1000000000) (d : List Dfr) :
    (∀ v, numP 2 2 59 x = some v → ∃ m', SM m' A K B ((n + v * (if i = 0 then 60 else 1) : Nat) : Int) r ∧ ∀ res, LV CV (.loop 1900) [pt A, pt K, low, .int .i64 c, pt B, arr2, .int .i64 ((i : Int) + 1)] m' d = some res → LV CV (.loop 1900) [pt A, pt K, low, .int .i64 c, pt B, arr2, .int .i64 i] m d = some res) ∧
    (numP 2 2 59 x = none → ∃ m', SM m' A K B n r ∧ LV CV (.loop 1900) [pt A, pt K, low, .int .i64 c, pt B, arr2, .int .i64 i] m d = some ⟨.panic PB, [pt A, pt K, low, .int .i64 c, pt B, arr2, .int .i64 i], m', d⟩) := by
  have h1 : (i : Int) < 2 := by omega
  have h2 : (i : Int) < c := by omega
  have hw : IntKind.wrap .i64 ((i : Int) + 1) = (i : Int) + 1 := wrap_i64 (by omega) (by omega)
  have hnum := number_V hx hl s.b s.lb s.nb 2 2 (most := 59) (by omega)
  have s2 := s.read (r' := r) ⟨1, x.map fun b => .int .u8 b.toNat⟩
  generalize (m.set B ⟨0, [S r]⟩).push ⟨1, x.map fun b => .int .u8 b.toNat⟩ = m2 at *
  simp only [Int.cast_ofNat_Int] at hnum
  refine ⟨fun v hv => ⟨_, s2.setN _, fun res hr => ?_⟩, fun hv => ⟨m2, s2, ?_⟩⟩
  · rw [hv] at hnum
    have hv2 := numP_le hv
    have hA := s.a
    have hA2 := s2.a
    have hst := st_some (x := .int .i64 ((n + v * (if i = 0 then 60 else 1) : Nat) : Int)) hA2 s2.la (by simp : 0 < (⟨0, [.int .i64 (n : Int)]⟩ : Row).cells.length)
    have hb : v * (if i = 0 then 60 else 1) ≤ 4000 := by split <;> omega
    have w1 : IntKind.wrap .i64 ((v : Int) * (if i = 0 then 60 else 1)) = ((v * (if i = 0 then 60 else 1) : Nat) : Int) := by
      rw [wrap_i64 (by split <;> omega) (by split <;> omega)]
      split <;> simp
    have w2 : IntKind.wrap .i64 ((n : Int) + ((v * (if i = 0 then 60 else 1) : Nat) : Int)) = ((n + v * (if i = 0 then 60 else 1) : Nat) : Int) := by rw [wrap_i64 (by omega) (by omega)]; omega
    generalize hU : (if i = 0 then 60 else 1 : Int) = U at *
    generalize v * (if i = 0 then 60 else 1) = V at *
    generalize n + V = N at *
    refine Q1900 d ?_
    simp only [y1900]
    have ha := arr2_at hi
    rw [hU] at ha
    simp only [putL] at hst
    simp [h1, h2, ha, hA, hA2, hnum, hw, w1, w2, hst, hr]
  · rw [hv] at hnum
    have hA := s.a
    refine Q1900 d ?_
    simp only [y1900]
    simp [h1, h2, arr2_at hi, hA, hnum]
end Go.Proofs.YtbccdlbibcbcfaaDoor.D
