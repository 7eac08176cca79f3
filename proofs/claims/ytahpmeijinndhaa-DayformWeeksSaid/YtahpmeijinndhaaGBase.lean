/-
  What the package variables of Go's library hold while the statements of this seat run ('GOK'), and that it stays so in every later world below which nothing has changed.
-/
import Derived.Test.YtahpmeijinndhaaProg
import Derived.Below
import Derived.WalkSmall
import Derived.WalkKit
import Derived.Shelf.Vars
import Derived.KernelRfl
namespace Go.Proofs.Ytahpmeijinndhaa
open Go.RowKit

/-- What the library's variables hold. -/
structure GOK (w : World) : Prop where
  maxLen : ∃ m : Int, w.cell? ⟨0, 0, none⟩ = some (.int .i64 m)

theorem GOK.of_shaped {w : World} (h : w.ShapedOpen Try.prog) : GOK w where
  maxLen := Go.Proofs.cell_of_shapedOpen_int (zero := #[.int .i64 0]) (t := 3) h (of_decide_eq_true (by kernel_rfl)) (by kernel_rfl) rfl (by kernel_rfl) (by kernel_rfl) Try.underlying3

theorem GOK.below {w w' : World} (h : GOK w) (hb : Below w.heap.size w w') : GOK w' where
  maxLen := by
    obtain ⟨m, hm⟩ := h.maxLen
    exact ⟨m, (hb.cell (World.block_lt_of_cell? w _ hm)).trans hm⟩

theorem GOK.drewN {w : World} (h : GOK w) (n : Nat) : GOK (w.drewN n) := h.below (below_drewN (Below.refl _ _) n)
theorem GOK.drew {w : World} (h : GOK w) : GOK w.drew := h.below (Below.refl _ _).drew
theorem GOK.alloc {w : World} (h : GOK w) (o : Obj) : GOK (w.alloc o) := h.below ((Below.refl _ _).alloc (Nat.le_refl _) o)
end Go.Proofs.Ytahpmeijinndhaa
