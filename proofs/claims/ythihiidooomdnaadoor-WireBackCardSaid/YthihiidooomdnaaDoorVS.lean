/-
  Go's library's functions on texts, as they answer in the second reading.
-/
import Derived.Test.YthihiidooomdnaaDoorX
namespace Go.Proofs.YthihiidooomdnaaDoor.D
open Go.RowKit
set_option linter.unusedVariables false
set_option linter.unusedSimpArgs false
theorem L_g {f : FuncId} {k : GK} (h : look gT f = some k) (a : List Value) (m : Mem) (d : List Dfr) : LV CV (.call f) a m d = (gkV k a).bind fun v => some ⟨.ret, [v], m, []⟩ := by
  have : CV.gv f = some (gkV k) := by show (look gT f).map gkV = _; rw [h]; rfl
  rw [L_givenV this]
@[simp] theorem alive_V (m : Mem) : LV CV (.call 9) [] m [] = some ⟨.ret, [.bool true], m, []⟩ := by
  rw [L_g (k := .pure gTrue) (by rfl)]; rfl
end Go.Proofs.YthihiidooomdnaaDoor.D
