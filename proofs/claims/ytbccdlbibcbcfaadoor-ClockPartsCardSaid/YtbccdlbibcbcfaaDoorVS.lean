/-
  Go's library's functions on texts, as they answer in the second reading.
-/
import Derived.Test.YtbccdlbibcbcfaaDoorX
namespace Go.Proofs.YtbccdlbibcbcfaaDoor.D
open Go.RowKit
set_option linter.unusedVariables false
set_option linter.unusedSimpArgs false
theorem L_g {f : FuncId} {k : GK} (h : look gT f = some k) (a : List Value) (m : Mem) (d : List Dfr) : LV CV (.call f) a m d = (gkV k a).bind fun v => some ⟨.ret, [v], m, []⟩ := by
  have : CV.gv f = some (gkV k) := by show (look gT f).map gkV = _; rw [h]; rfl
  rw [L_givenV this]
@[simp] theorem alive_V (m : Mem) : LV CV (.call 8) [] m [] = some ⟨.ret, [.bool true], m, []⟩ := by
  rw [L_g (k := .pure gTrue) (by rfl)]; rfl
@[simp] theorem idxB_V (l : List UInt8) (c : UInt8) (m : Mem) : LV CV (.call 44) [S l, .int .u8 c.toNat] m [] = some ⟨.ret, [.int .i64 (Lib.indexByte l c)], m, []⟩ := by
  rw [L_g (k := .pure gIdxB) (by rfl)]
  simp [gkV, gIdxB, S]
@[simp] theorem count_V (l : List UInt8) (c : UInt8) (m : Mem) : LV CV (.call 25) [S l, S [c]] m [] = some ⟨.ret, [.int .i64 (l.count c)], m, []⟩ := by
  rw [L_g (k := .pure gCount) (by rfl)]
  simp [gkV, gCount, S, Lib.countByte]
theorem itoa_V {n : Int} (h : -9223372036854775808 ≤ n) (h2 : n ≤ 9223372036854775807) (m : Mem) : LV CV (.call 29) [.int .i64 n] m [] = some ⟨.ret, [S (Lib.itoa n)], m, []⟩ := by
  rw [L_g (k := .pure gItoa) (by rfl)]
  simp [gkV, gItoa, h, h2]
@[simp] theorem hasPrefix_V (l p : List UInt8) (m : Mem) : LV CV (.call 40) [S l, S p] m [] = some ⟨.ret, [.bool (decide (p <+: l))], m, []⟩ := by
  refine R40 ?_
  by_cases h : p.length ≤ l.length
  · have e : (l.take p.length = p) = (p <+: l) := by
      rw [List.prefix_iff_eq_take]; exact propext eq_comm
    simp [x40, h, e]
  · have e : ¬ (p <+: l) := fun hh => h hh.length_le
    simp [x40, h, e]
theorem cutPrefix_V (l p : List UInt8) (m : Mem) : LV CV (.call 33) [S l, S p] m [] = some ⟨.ret, [.tuple #[S (if p <+: l then l.drop p.length else l), .bool (decide (p <+: l))]], m, []⟩ := by
  refine R33 ?_
  by_cases h : p <+: l
  · have := h.length_le
    simp [x33, h, this]
  · simp [x33, h]
@[simp] theorem cutPrefix2_V (l p : List UInt8) (m : Mem) : LV CV (.call 24) [S l, S p] m [] = some ⟨.ret, [.tuple #[S (if p <+: l then l.drop p.length else l), .bool (decide (p <+: l))]], m, []⟩ := by
  refine R24 ?_
  simp [x24, cutPrefix_V]
end Go.Proofs.YtbccdlbibcbcfaaDoor.D
