/-
  Go's library's functions on texts, as they answer in the second reading.
-/
import Derived.Test.YtibklmjoepckdaaDoorX
namespace Go.Proofs.YtibklmjoepckdaaDoor.D
open Go.RowKit
set_option linter.unusedVariables false
set_option linter.unusedSimpArgs false
theorem L_g {f : FuncId} {k : GK} (h : look gT f = some k) (a : List Value) (m : Mem) (d : List Dfr) : LV CV (.call f) a m d = (gkV k a).bind fun v => some ⟨.ret, [v], m, []⟩ := by
  have : CV.gv f = some (gkV k) := by show (look gT f).map gkV = _; rw [h]; rfl
  rw [L_givenV this]
@[simp] theorem alive_V (m : Mem) : LV CV (.call 9) [] m [] = some ⟨.ret, [.bool true], m, []⟩ := by
  rw [L_g (k := .pure gTrue) (by rfl)]; rfl
@[simp] theorem idxB_V (l : List UInt8) (c : UInt8) (m : Mem) : LV CV (.call 59) [S l, .int .u8 c.toNat] m [] = some ⟨.ret, [.int .i64 (Lib.indexByte l c)], m, []⟩ := by
  rw [L_g (k := .pure gIdxB) (by rfl)]
  simp [gkV, gIdxB, S]
@[simp] theorem count_V (l : List UInt8) (c : UInt8) (m : Mem) : LV CV (.call 48) [S l, S [c]] m [] = some ⟨.ret, [.int .i64 (l.count c)], m, []⟩ := by
  rw [L_g (k := .pure gCount) (by rfl)]
  simp [gkV, gCount, S, Lib.countByte]
theorem split_V {l : List UInt8} (h : l.length < 4294967281) (c : UInt8) (m : Mem) : LV CV (.call 26) [S l, S [c]] m [] = some ⟨.ret, [fz 1 true ((Lib.split l [c]).map es)], m, []⟩ := by
  rw [L_g (k := .strs gSplit) (by rfl)]
  simp [gkV, gSplit, S, ByteArray.size, h]
@[simp] theorem hasPrefix_V (l p : List UInt8) (m : Mem) : LV CV (.call 51) [S l, S p] m [] = some ⟨.ret, [.bool (decide (p <+: l))], m, []⟩ := by
  refine R51 ?_
  by_cases h : p.length ≤ l.length
  · have e : (l.take p.length = p) = (p <+: l) := by
      rw [List.prefix_iff_eq_take]; exact propext eq_comm
    simp [x51, h, e]
  · have e : ¬ (p <+: l) := fun hh => h hh.length_le
    simp [x51, h, e]
@[simp] theorem hasPrefix2_V (l p : List UInt8) (m : Mem) : LV CV (.call 42) [S l, S p] m [] = some ⟨.ret, [.bool (decide (p <+: l))], m, []⟩ := by
  refine R42 ?_
  simp [x42]
theorem cutPrefix_V (l p : List UInt8) (m : Mem) : LV CV (.call 54) [S l, S p] m [] = some ⟨.ret, [.tuple #[S (if p <+: l then l.drop p.length else l), .bool (decide (p <+: l))]], m, []⟩ := by
  refine R54 ?_
  by_cases h : p <+: l
  · have := h.length_le
    simp [x54, h, this]
  · simp [x54, h]
@[simp] theorem cutPrefix2_V (l p : List UInt8) (m : Mem) : LV CV (.call 45) [S l, S p] m [] = some ⟨.ret, [.tuple #[S (if p <+: l then l.drop p.length else l), .bool (decide (p <+: l))]], m, []⟩ := by
  refine R45 ?_
  simp [x45, cutPrefix_V]
end Go.Proofs.YtibklmjoepckdaaDoor.D
