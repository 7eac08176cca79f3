/-
  Go's library's functions on texts, as they answer in the second reading.
-/
import Derived.Test.YtjojfpmelhaknaaX
namespace Go.Proofs.Ytjojfpmelhaknaa.D
open Go.RowKit
set_option linter.unusedVariables false
set_option linter.unusedSimpArgs false
theorem L_g {f : FuncId} {k : GK} (h : look gT f = some k) (a : List Value) (m : Mem) (d : List Dfr) : LV CV (.call f) a m d = (gkV k a).bind fun v => some ⟨.ret, [v], m, []⟩ := by
  have : CV.gv f = some (gkV k) := by show (look gT f).map gkV = _; rw [h]; rfl
  rw [L_givenV this]
@[simp] theorem alive_V (m : Mem) : LV CV (.call 10) [] m [] = some ⟨.ret, [.bool true], m, []⟩ := by
  rw [L_g (k := .pure gTrue) (by rfl)]; rfl
@[simp] theorem idxB_V (l : List UInt8) (c : UInt8) (m : Mem) : LV CV (.call 48) [S l, .int .u8 c.toNat] m [] = some ⟨.ret, [.int .i64 (Lib.indexByte l c)], m, []⟩ := by
  rw [L_g (k := .pure gIdxB) (by rfl)]
  simp [gkV, gIdxB, S]
@[simp] theorem count_V (l : List UInt8) (c : UInt8) (m : Mem) : LV CV (.call 35) [S l, S [c]] m [] = some ⟨.ret, [.int .i64 (l.count c)], m, []⟩ := by
  rw [L_g (k := .pure gCount) (by rfl)]
  simp [gkV, gCount, S, Lib.countByte]
end Go.Proofs.Ytjojfpmelhaknaa.D
