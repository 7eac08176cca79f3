/-
  What the package variables of Go's library hold while the statements of this seat run ('GOK'), and that it stays so in every later world below which nothing has changed.
-/
import Derived.Test.YtjojfpmelhaknaaProg
import Derived.Below
import Derived.WalkSmall
import Derived.WalkKit
import Derived.Shelf.Vars
import Derived.KernelRfl
import Derived.Lib.AppendIntMem
import Derived.Lib.LaidTab
import Derived.LaidSub
import Derived.Lib.ItoaNum
import Derived.Lib.Space
namespace Go.Proofs.Ytjojfpmelhaknaa
open Go.RowKit

/-- What the library's variables hold. -/
structure GOK (w : World) : Prop where
  started : w.heap.size = w.heap.size
  maxLen : ∃ m : Int, w.cell? ⟨0, 0, none⟩ = some (.int .i64 m)

theorem tab_of_laid {w : World} {l : List (String × DataW Unit)} (hL : laidMetH Try.prog l w) {name : String} {k : IntKind} {tab : List Int} {g n : Nat} {t e : TypeId} (hg : Try.prog.globalNamed name = some g) (hty : (Try.prog.globals[g]?).map (·.type) = some t)
    (ht : Try.prog.underlying t = some (.array n e)) (he : Try.prog.underlying e = some (.int k)) (hce : Try.prog.cellsOf e = 1) (hct : Try.prog.cellsOf t = n)
    (hf : l.filter (fun x => x.1 == name) = [(name, Lib.tabData k tab)]) : Lib.TabIs Try.prog w name k tab := by
  have h1 := hL.filter (fun x => x.1 == name)
  rw [hf] at h1
  exact Lib.tabIs_of_head (rest := []) hg hty ht he hce hct h1

theorem maxLen_of {w : World} (h : w.ShapedOpen Try.prog) : ∃ m : Int, w.cell? ⟨0, 0, none⟩ = some (.int .i64 m) :=
  Go.Proofs.cell_of_shapedOpen_int (zero := #[.int .i64 0]) (t := 3) h (of_decide_eq_true (by kernel_rfl)) (by kernel_rfl) rfl (by kernel_rfl) (by kernel_rfl) Try.underlying3

theorem GOK.below {w w' : World} (_h : GOK w) (_hb : Below w.heap.size w w') : GOK w' where
  started := rfl
  maxLen := by
    obtain ⟨m, hm⟩ := _h.maxLen
    exact ⟨m, (_hb.cell (World.block_lt_of_cell? w _ hm)).trans hm⟩
end Go.Proofs.Ytjojfpmelhaknaa
