/-
  No cell of these rows narrows 'for every input' (looked for: loops, veiled, ifaces, maps, wideKeys, modest, calm, conditions, laid).
  DERIVED. THE GIVEN ROWS OF THIS SEAT. 6 by the template 'for every input the law returns true; each argument reads behind the call as it read before'; 0 by the template 'total and deterministic' (their statements: YtjojfpmelhaknaaTotals.lean).
  GIVEN WITH THE SEED: the statements are not yours to turn. If you find one false, say at which input.
  Laid BY PROGRAM, IN A SANDBOX (cutbox-rows.mjs): the forced cells as the released guide's own fill.sh prints them over the translation b03977f03a5b77fd… (all of the seat's roots in one cut). By AI agents, Wed Nov 11 2026. No macro, syntax, notation, axiom, sorry.
-/
import Derived.Test.YtjojfpmelhaknaaChecked
import GoSem.Claim
import GoSem.ClaimJoined
import GoSem.ClaimMapViews
import Derived.JoinedTies
import Derived.KernelRfl
namespace Go.Proofs.Ytjojfpmelhaknaa
/- THE CELL 'sum', in the pinned program and in every row, IS THE sha256 OF THE DUMP (.gsa) THAT YtjojfpmelhaknaaProg.lean LOADS. Nothing in Lean hashes anything: it is a label: what it is worth is what the hold of that sum in a sandbox is worth. -/
noncomputable def Try.pinned : Pinned := { name := "ytjojfpmelhaknaa", sum := "b03977f03a5b77fd56e6e4d01218c632b162fb9c5920f43ac959322b01eda2ae", checked := Try.checked }
namespace Rows
def none {H : Type} : Left H := { results := [], args := [] }

/-- 'noonmarklaw03.RopePlays': WHATEVER THE INPUT: true; the input reads as it did. -/
def ropePlaysSpec : ChangeSpec := { name := "ropePlays", fn := fun _ => fun
  | [d1, d2] => { results := [.lit (.bool true)], args := [d1, d2] }
  | _ => none }
def ropePlaysRow : OpenClaim := { program := "ytjojfpmelhaknaa", sum := "b03977f03a5b77fd56e6e4d01218c632b162fb9c5920f43ac959322b01eda2ae", func := "noonmark/noonmarklaw03.RopePlays", spec := "ropePlays", inPlace := ["internal/bytealg.CountString", "internal/bytealg.IndexByteString", "internal/bytealg.IndexString", "internal/abi.NoEscape"], unfollowed := true, recurses := true, named := ["internal/bytealg.MaxLen"], apart := false }
def RopePlaysSaid : Prop := ropePlaysRow.holds Try.pinned (OpenSpec.ofChange ropePlaysSpec)

/-- ITS FALSE NEIGHBOUR: 'it returns false'. Refute it at one input. -/
def ropePlaysWrong : ChangeSpec := { name := "ropePlays", fn := fun _ => fun
  | [d1, d2] => { results := [.lit (.bool false)], args := [d1, d2] }
  | _ => none }
def RopePlaysWrongFalsely : Prop := ropePlaysRow.holds Try.pinned (OpenSpec.ofChange ropePlaysWrong)

/-- 'noonmarklaw03.RopeHeight': WHATEVER THE INPUT: true; the input reads as it did. -/
def ropeHeightSpec : ChangeSpec := { name := "ropeHeight", fn := fun _ => fun
  | [d1, d2] => { results := [.lit (.bool true)], args := [d1, d2] }
  | _ => none }
def ropeHeightRow : OpenClaim := { program := "ytjojfpmelhaknaa", sum := "b03977f03a5b77fd56e6e4d01218c632b162fb9c5920f43ac959322b01eda2ae", func := "noonmark/noonmarklaw03.RopeHeight", spec := "ropeHeight", inPlace := ["internal/bytealg.CountString", "internal/bytealg.IndexByteString", "internal/bytealg.IndexString", "internal/abi.NoEscape"], unfollowed := true, recurses := true, named := ["internal/bytealg.MaxLen"], apart := false }
def RopeHeightSaid : Prop := ropeHeightRow.holds Try.pinned (OpenSpec.ofChange ropeHeightSpec)

/-- ITS FALSE NEIGHBOUR: 'it returns false'. Refute it at one input. -/
def ropeHeightWrong : ChangeSpec := { name := "ropeHeight", fn := fun _ => fun
  | [d1, d2] => { results := [.lit (.bool false)], args := [d1, d2] }
  | _ => none }
def RopeHeightWrongFalsely : Prop := ropeHeightRow.holds Try.pinned (OpenSpec.ofChange ropeHeightWrong)

/-- 'noonmarklaw03.RopeBack': WHATEVER THE INPUT: true; the input reads as it did. -/
def ropeBackSpec : ChangeSpec := { name := "ropeBack", fn := fun _ => fun
  | [d1, d2, d3, d4] => { results := [.lit (.bool true)], args := [d1, d2, d3, d4] }
  | _ => none }
def ropeBackRow : OpenClaim := { program := "ytjojfpmelhaknaa", sum := "b03977f03a5b77fd56e6e4d01218c632b162fb9c5920f43ac959322b01eda2ae", func := "noonmark/noonmarklaw03.RopeBack", spec := "ropeBack", inPlace := ["internal/bytealg.CountString", "internal/bytealg.IndexByteString", "internal/bytealg.IndexString", "internal/abi.NoEscape"], unfollowed := true, recurses := true, named := ["internal/bytealg.MaxLen"], apart := false }
def RopeBackSaid : Prop := ropeBackRow.holds Try.pinned (OpenSpec.ofChange ropeBackSpec)

/-- ITS FALSE NEIGHBOUR: 'it returns false'. Refute it at one input. -/
def ropeBackWrong : ChangeSpec := { name := "ropeBack", fn := fun _ => fun
  | [d1, d2, d3, d4] => { results := [.lit (.bool false)], args := [d1, d2, d3, d4] }
  | _ => none }
def RopeBackWrongFalsely : Prop := ropeBackRow.holds Try.pinned (OpenSpec.ofChange ropeBackWrong)

/-- 'noonmarklaw03.RopeParts': WHATEVER THE INPUT: true; the input reads as it did. -/
def ropePartsSpec : ChangeSpec := { name := "ropeParts", fn := fun _ => fun
  | [d1, d2, d3, d4, d5] => { results := [.lit (.bool true)], args := [d1, d2, d3, d4, d5] }
  | _ => none }
def ropePartsRow : OpenClaim := { program := "ytjojfpmelhaknaa", sum := "b03977f03a5b77fd56e6e4d01218c632b162fb9c5920f43ac959322b01eda2ae", func := "noonmark/noonmarklaw03.RopeParts", spec := "ropeParts", inPlace := ["internal/bytealg.CountString", "internal/bytealg.IndexByteString", "internal/bytealg.IndexString", "internal/abi.NoEscape"], unfollowed := true, recurses := true, named := ["internal/bytealg.MaxLen"], apart := false }
def RopePartsSaid : Prop := ropePartsRow.holds Try.pinned (OpenSpec.ofChange ropePartsSpec)

/-- ITS FALSE NEIGHBOUR: 'it returns false'. Refute it at one input. -/
def ropePartsWrong : ChangeSpec := { name := "ropeParts", fn := fun _ => fun
  | [d1, d2, d3, d4, d5] => { results := [.lit (.bool false)], args := [d1, d2, d3, d4, d5] }
  | _ => none }
def RopePartsWrongFalsely : Prop := ropePartsRow.holds Try.pinned (OpenSpec.ofChange ropePartsWrong)

/-- 'noonmarklaw03.RopeKeeps': WHATEVER THE INPUT: true; the input reads as it did. -/
def ropeKeepsSpec : ChangeSpec := { name := "ropeKeeps", fn := fun _ => fun
  | [d1, d2] => { results := [.lit (.bool true)], args := [d1, d2] }
  | _ => none }
def ropeKeepsRow : OpenClaim := { program := "ytjojfpmelhaknaa", sum := "b03977f03a5b77fd56e6e4d01218c632b162fb9c5920f43ac959322b01eda2ae", func := "noonmark/noonmarklaw03.RopeKeeps", spec := "ropeKeeps", inPlace := ["internal/bytealg.CountString", "internal/bytealg.IndexByteString", "internal/bytealg.IndexString", "internal/abi.NoEscape"], unfollowed := true, recurses := true, named := ["internal/bytealg.MaxLen"], apart := false }
def RopeKeepsSaid : Prop := ropeKeepsRow.holds Try.pinned (OpenSpec.ofChange ropeKeepsSpec)

/-- ITS FALSE NEIGHBOUR: 'it returns false'. Refute it at one input. -/
def ropeKeepsWrong : ChangeSpec := { name := "ropeKeeps", fn := fun _ => fun
  | [d1, d2] => { results := [.lit (.bool false)], args := [d1, d2] }
  | _ => none }
def RopeKeepsWrongFalsely : Prop := ropeKeepsRow.holds Try.pinned (OpenSpec.ofChange ropeKeepsWrong)

/-- 'noonmarklaw03.RopePlaces': WHATEVER THE INPUT: true; the input reads as it did. -/
def ropePlacesSpec : ChangeSpec := { name := "ropePlaces", fn := fun _ => fun
  | [d1, d2, d3, d4] => { results := [.lit (.bool true)], args := [d1, d2, d3, d4] }
  | _ => none }
def ropePlacesRow : OpenClaim := { program := "ytjojfpmelhaknaa", sum := "b03977f03a5b77fd56e6e4d01218c632b162fb9c5920f43ac959322b01eda2ae", func := "noonmark/noonmarklaw03.RopePlaces", spec := "ropePlaces", inPlace := ["internal/bytealg.CountString", "internal/bytealg.IndexByteString", "internal/bytealg.IndexString", "internal/abi.NoEscape"], unfollowed := true, recurses := true, named := ["internal/bytealg.MaxLen"], apart := false }
def RopePlacesSaid : Prop := ropePlacesRow.holds Try.pinned (OpenSpec.ofChange ropePlacesSpec)

/-- ITS FALSE NEIGHBOUR: 'it returns false'. Refute it at one input. -/
def ropePlacesWrong : ChangeSpec := { name := "ropePlaces", fn := fun _ => fun
  | [d1, d2, d3, d4] => { results := [.lit (.bool false)], args := [d1, d2, d3, d4] }
  | _ => none }
def RopePlacesWrongFalsely : Prop := ropePlacesRow.holds Try.pinned (OpenSpec.ofChange ropePlacesWrong)

/- THE SECOND FORM. 'bulk': how many values and letters a reading holds, each counted each time it is reached (what is shared counts as often as it is met; a slice's spare places count too). A statement '..UptoSaid' is the law's where the arguments, and the package variables that the reading takes, are together of bulk at most 1048576: NARROWER than '..Said'. Prove '..Said' where nothing that the law and all that it calls make is longer than what came in: it says more and counts as full. Else prove '..UptoSaid'. A law counts once. -/
mutual
def uptoBulk {H : Type} : DataW H → Nat
  | .lit (.string bytes) => bytes.length + 1
  | .lit _ => 1
  | .nil => 1
  | .ptr d => uptoBulk d + 1
  | .slice elems spare => uptoBulkAll elems + uptoBulkAll spare + 1
  | .agg parts => uptoBulkAll parts + 1
  | .iface _ d => uptoBulk d + 1
  | .map entries => uptoBulkEntries entries + 1
  | .held _ => 1
def uptoBulkAll {H : Type} : List (DataW H) → Nat
  | [] => 0
  | d :: r => uptoBulk d + uptoBulkAll r
def uptoBulkEntries {H : Type} : List (Lit × DataW H) → Nat
  | [] => 0
  | x :: r => uptoBulkEntry x + uptoBulkEntries r
def uptoBulkEntry {H : Type} : Lit × DataW H → Nat
  | (.string bytes, d) => bytes.length + uptoBulk d + 1
  | (_, d) => uptoBulk d + 1
 end
def uptoSmall : (H : Type) → List (DataW H) → Bool := fun _ ds => decide (uptoBulkAll ds ≤ 1048576)
def OpenSpec.upto (s : _root_.Go.ChangeSpec) : _root_.Go.OpenSpec := { _root_.Go.OpenSpec.ofChange s with cond := some uptoSmall }

/-- 'noonmarklaw03.RopePlays', WHERE WHAT IT READS IS OF BULK AT MOST 1048576: true; the input reads as it did. -/
def ropePlaysUptoRow : OpenClaim := { program := "ytjojfpmelhaknaa", sum := "b03977f03a5b77fd56e6e4d01218c632b162fb9c5920f43ac959322b01eda2ae", func := "noonmark/noonmarklaw03.RopePlays", spec := "ropePlays", inPlace := ["internal/bytealg.CountString", "internal/bytealg.IndexByteString", "internal/bytealg.IndexString", "internal/abi.NoEscape"], unfollowed := true, recurses := true, named := ["internal/bytealg.MaxLen"], apart := false, narrowed := true }
def RopePlaysUptoSaid : Prop := ropePlaysUptoRow.holds Try.pinned (OpenSpec.upto ropePlaysSpec)

/-- 'noonmarklaw03.RopeHeight', WHERE WHAT IT READS IS OF BULK AT MOST 1048576: true; the input reads as it did. -/
def ropeHeightUptoRow : OpenClaim := { program := "ytjojfpmelhaknaa", sum := "b03977f03a5b77fd56e6e4d01218c632b162fb9c5920f43ac959322b01eda2ae", func := "noonmark/noonmarklaw03.RopeHeight", spec := "ropeHeight", inPlace := ["internal/bytealg.CountString", "internal/bytealg.IndexByteString", "internal/bytealg.IndexString", "internal/abi.NoEscape"], unfollowed := true, recurses := true, named := ["internal/bytealg.MaxLen"], apart := false, narrowed := true }
def RopeHeightUptoSaid : Prop := ropeHeightUptoRow.holds Try.pinned (OpenSpec.upto ropeHeightSpec)

/-- 'noonmarklaw03.RopeBack', WHERE WHAT IT READS IS OF BULK AT MOST 1048576: true; the input reads as it did. -/
def ropeBackUptoRow : OpenClaim := { program := "ytjojfpmelhaknaa", sum := "b03977f03a5b77fd56e6e4d01218c632b162fb9c5920f43ac959322b01eda2ae", func := "noonmark/noonmarklaw03.RopeBack", spec := "ropeBack", inPlace := ["internal/bytealg.CountString", "internal/bytealg.IndexByteString", "internal/bytealg.IndexString", "internal/abi.NoEscape"], unfollowed := true, recurses := true, named := ["internal/bytealg.MaxLen"], apart := false, narrowed := true }
def RopeBackUptoSaid : Prop := ropeBackUptoRow.holds Try.pinned (OpenSpec.upto ropeBackSpec)

/-- 'noonmarklaw03.RopeParts', WHERE WHAT IT READS IS OF BULK AT MOST 1048576: true; the input reads as it did. -/
def ropePartsUptoRow : OpenClaim := { program := "ytjojfpmelhaknaa", sum := "b03977f03a5b77fd56e6e4d01218c632b162fb9c5920f43ac959322b01eda2ae", func := "noonmark/noonmarklaw03.RopeParts", spec := "ropeParts", inPlace := ["internal/bytealg.CountString", "internal/bytealg.IndexByteString", "internal/bytealg.IndexString", "internal/abi.NoEscape"], unfollowed := true, recurses := true, named := ["internal/bytealg.MaxLen"], apart := false, narrowed := true }
def RopePartsUptoSaid : Prop := ropePartsUptoRow.holds Try.pinned (OpenSpec.upto ropePartsSpec)

/-- 'noonmarklaw03.RopeKeeps', WHERE WHAT IT READS IS OF BULK AT MOST 1048576: true; the input reads as it did. -/
def ropeKeepsUptoRow : OpenClaim := { program := "ytjojfpmelhaknaa", sum := "b03977f03a5b77fd56e6e4d01218c632b162fb9c5920f43ac959322b01eda2ae", func := "noonmark/noonmarklaw03.RopeKeeps", spec := "ropeKeeps", inPlace := ["internal/bytealg.CountString", "internal/bytealg.IndexByteString", "internal/bytealg.IndexString", "internal/abi.NoEscape"], unfollowed := true, recurses := true, named := ["internal/bytealg.MaxLen"], apart := false, narrowed := true }
def RopeKeepsUptoSaid : Prop := ropeKeepsUptoRow.holds Try.pinned (OpenSpec.upto ropeKeepsSpec)

/-- 'noonmarklaw03.RopePlaces', WHERE WHAT IT READS IS OF BULK AT MOST 1048576: true; the input reads as it did. -/
def ropePlacesUptoRow : OpenClaim := { program := "ytjojfpmelhaknaa", sum := "b03977f03a5b77fd56e6e4d01218c632b162fb9c5920f43ac959322b01eda2ae", func := "noonmark/noonmarklaw03.RopePlaces", spec := "ropePlaces", inPlace := ["internal/bytealg.CountString", "internal/bytealg.IndexByteString", "internal/bytealg.IndexString", "internal/abi.NoEscape"], unfollowed := true, recurses := true, named := ["internal/bytealg.MaxLen"], apart := false, narrowed := true }
def RopePlacesUptoSaid : Prop := ropePlacesUptoRow.holds Try.pinned (OpenSpec.upto ropePlacesSpec)

end Rows
end Go.Proofs.Ytjojfpmelhaknaa
