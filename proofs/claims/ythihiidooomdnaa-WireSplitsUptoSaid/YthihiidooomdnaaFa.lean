import Derived.Test.YthihiidooomdnaaX
import Derived.Test.YthihiidooomdnaaF1
namespace Go.Proofs.Ythihiidooomdnaa.D
open Go.RowKit
set_option linter.unusedVariables false
set_option linter.unusedSimpArgs false
variable (gv : FuncId → Option (List Value → Mem → Option (Value × Mem)))
theorem same_loop (m : Mem) (a b : Value) (x y : List Int) (ha : By m a x) (hb : By m b y) (hl : x.length = y.length) (hx : x.length ≤ 1000000000000) : ∀ (k i : Nat), i + k = x.length →
    ∃ i', L (CC gv) (.loop 1000) [a, b, .bool false, .int .i64 i] m [] = some (if x.drop i = y.drop i then ⟨.exit 0, [a, b, .bool false, i'], m, []⟩ else ⟨.ret, [a, b, .bool false, i'], m, []⟩) := by
  intro k
  induction k with
  | zero =>
    intro i hi
    have e1 : x.drop i = [] := List.drop_eq_nil_of_le (by omega)
    have e2 : y.drop i = [] := List.drop_eq_nil_of_le (by omega)
    exact ⟨.int .i64 i, Q1000 gv (by simp [y1000, ha.len, show ¬ i < x.length by omega, e1, e2])⟩
  | succ k ih =>
    intro i hi
    have hxi : i < x.length := by omega
    have hyi : i < y.length := by omega
    obtain ⟨o1, f1, a1, a2⟩ := ha.byte (List.getElem?_eq_getElem hxi) .i64
    obtain ⟨o2, f2, b1, b2⟩ := hb.byte (List.getElem?_eq_getElem hyi) .i64
    have e1 : x.drop i = x[i] :: x.drop (i + 1) := List.drop_eq_getElem_cons hxi
    have e2 : y.drop i = y[i] :: y.drop (i + 1) := List.drop_eq_getElem_cons hyi
    by_cases hc : x[i] = y[i]
    · obtain ⟨i', hi'⟩ := ih (i + 1) (by omega)
      refine ⟨i', Q1000 gv ?_⟩
      have hw : IntKind.wrap .i64 ((i : Int) + 1) = (i : Int) + 1 := wrap_i64 (by omega) (by omega)
      rw [Int.natCast_add] at hi'
      simp [y1000, ha.len, hxi, a1, a2, b1, b2, hc, hw]
      have e3 : (x.drop i = y.drop i) = (x.drop (i + 1) = y.drop (i + 1)) := by rw [e1, e2, hc]; simp only [List.cons.injEq, true_and]
      simp only [e3]
      exact hi'
    · refine ⟨.int .i64 i, Q1000 gv ?_⟩
      have e3 : ¬ (x.drop i = y.drop i) := by rw [e1, e2]; intro h; exact hc (List.cons.inj h).1
      simp [y1000, ha.len, hxi, a1, a2, b1, b2, hc, e3]
theorem same_spec (hg : gv 10 = none) (m : Mem) (a b : Value) (x y : List Int) (ha : By m a x) (hb : By m b y) (hx : x.length ≤ 1000000000000) :
    L (CC gv) (.call 10) [a, b] m [] = some ⟨.ret, [.bool (decide (x = y))], m, []⟩ := by
  refine R10 gv hg ?_
  by_cases hl : x.length = y.length
  · obtain ⟨i', h⟩ := same_loop gv m a b x y ha hb hl hx x.length 0 (by omega)
    simp only [Int.natCast_zero] at h
    simp only [List.drop_zero] at h
    simp [x10, ha.len, hb.len, hl]
    rw [h]
    by_cases e : x = y
    · simp [e, ir10]
    · simp [e, ir10]
  · have : x ≠ y := fun e => hl (by rw [e])
    have h2 : ¬ ((x.length : Int) = y.length) := by omega
    simp [x10, ha.len, hb.len, this, h2]
end Go.Proofs.Ythihiidooomdnaa.D
