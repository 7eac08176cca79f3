/-
  The package's law's own checks: what is alive.
-/
import Derived.Test.YthihiidooomdnaaX
import Derived.Test.YthihiidooomdnaaF2
namespace Go.Proofs.Ythihiidooomdnaa.D
open Go.RowKit
set_option linter.unusedVariables false
def isTrue (o : Option Out) : Bool := match o with | some ⟨.ret, [.bool true], _, _⟩ => true | _ => false
theorem isTrue_some {o : Option Out} (h : isTrue o = true) : ∃ m d, o = some ⟨.ret, [.bool true], m, d⟩ := by
  unfold isTrue at h
  split at h
  · exact ⟨_, _, rfl⟩
  · cases h
theorem alive_run : isTrue (E (CC fun _ => none) 60 (.call 11) [] ⟨[], 0, 0, 0⟩ []) = true := by kernel_rfl
theorem mixed : Try.prog.follows .mixedOrders = true := by kernel_rfl
def gAlive : List Value → Mem → Option (Value × Mem)
  | [], m => some (.bool true, m)
  | _, _ => none
def gv1 : FuncId → Option (List Value → Mem → Option (Value × Mem)) := fun f => if f = 11 then some gAlive else none
theorem alive_given (m : Mem) : L (CC gv1) (.call 11) [] m [] = some ⟨.ret, [.bool true], m, []⟩ := by
  rw [L_given (C := CC gv1) (g := gAlive) (by rfl)]; rfl
theorem gv1_some {f : FuncId} {g : List Value → Mem → Option (Value × Mem)} (h : gv1 f = some g) : f = 11 ∧ g = gAlive := by
  unfold gv1 at h
  split at h
  · cases h; exact ⟨by assumption, rfl⟩
  · cases h
theorem gAlive_some {args : List Value} {m m' : Mem} {v : Value} (h : gAlive args m = some (v, m')) : args = [] ∧ v = .bool true ∧ m' = m := by
  unfold gAlive at h
  split at h
  · cases h; exact ⟨rfl, rfl, rfl⟩
  · cases h
theorem GS1 (W : World) (B lo : Nat) : GS ⟨Try.prog, W, B, lo⟩ (CC gv1) := by
  refine ⟨mixed, CC_fit gv1, fun f g h args m v m' hv => ?_, fun f g h args m v m' hv ι w vs hr hl => ?_⟩
  · obtain ⟨rfl, rfl⟩ := gv1_some h
    obtain ⟨_, _, rfl⟩ := gAlive_some hv
    exact .refl _
  · obtain ⟨rfl, rfl⟩ := gv1_some h
    obtain ⟨rfl, rfl, rfl⟩ := gAlive_some hv
    obtain ⟨m2, d2, e⟩ := isTrue_some alive_run
    exact given_true (C := CC fun _ => none) (P := Try.prog) mixed (CC_fit fun _ => none) (fun _ => rfl) (f := 11) (fn := ir11) rfl e rfl hr hl.nil_inv
end Go.Proofs.Ythihiidooomdnaa.D
