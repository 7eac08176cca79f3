/-
  What the package variables of Go's library hold while the statements of this seat run ('GOK'), and that it stays so in every later world below which nothing has changed.
-/
import Derived.Test.YthihiidooomdnaaDoorProg
import Derived.Below
import Derived.WalkSmall
import Derived.WalkKit
import Derived.Shelf.Vars
import Derived.KernelRfl
import Derived.Lib.AppendIntMem
import Derived.Lib.LaidTab
import Derived.LaidSub
import Derived.Lib.ItoaNum
import Derived.Lib.Space
namespace Go.Proofs.YthihiidooomdnaaDoor
open Go.RowKit

/-- What the library's variables hold. -/
structure GOK (w : World) : Prop where
  started : w.heap.size = w.heap.size
  pow10 : Lib.TabIs Tryd.prog w "internal/strconv.uint64pow10" .u64 Lib.pow10Tab

theorem tab_of_laid {w : World} {l : List (String × DataW Unit)} (hL : laidMetH Tryd.prog l w) {name : String} {k : IntKind} {tab : List Int} {g n : Nat} {t e : TypeId} (hg : Tryd.prog.globalNamed name = some g) (hty : (Tryd.prog.globals[g]?).map (·.type) = some t)
    (ht : Tryd.prog.underlying t = some (.array n e)) (he : Tryd.prog.underlying e = some (.int k)) (hce : Tryd.prog.cellsOf e = 1) (hct : Tryd.prog.cellsOf t = n)
    (hf : l.filter (fun x => x.1 == name) = [(name, Lib.tabData k tab)]) : Lib.TabIs Tryd.prog w name k tab := by
  have h1 := hL.filter (fun x => x.1 == name)
  rw [hf] at h1
  exact Lib.tabIs_of_head (rest := []) hg hty ht he hce hct h1


theorem GOK.below {w w' : World} (_h : GOK w) (_hb : Below w.heap.size w w') : GOK w' where
  started := rfl
  pow10 := Lib.tabBelow_of_tabIs _h.pow10 w' _hb
end Go.Proofs.YthihiidooomdnaaDoor
