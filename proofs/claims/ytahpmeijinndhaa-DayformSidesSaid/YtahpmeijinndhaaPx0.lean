-- Written for this claim by a turned copy of the kit's print program (gprint_patch.py). Not trusted: Lean checks it.
import Derived.Test.YtahpmeijinndhaaGBase
import Derived.Test.YtahpmeijinndhaaProg
import Derived.Below
import Derived.Deep.Draws
import Derived.Deep.AppendLies
import Derived.Maps.AppendAt
import Derived.OwnWalk
import Derived.Laws.BytesArg
import Derived.Laws.MakeOwn
import Derived.Laws.OwnMore
import Derived.Deep.OwnRows
import Derived.Tactics
import Derived.Lib.ConvBytes
import Derived.Laws.Slices
import Derived.WalkKit
import Derived.KernelRfl
import Derived.RowKit3
import Derived.Deep.LoopGhost
import Derived.Deep.QuietTactic
import Derived.BigQuiet
import Derived.WideLaws
import Derived.Deep.DeepCutAuto
import Derived.Deep.CutBlock
import Derived.Deep.RegionHeld3
import Derived.Laws.Rows
import Derived.Lib.AppendStr
import Derived.ArgAppend
import Derived.Laws.IdiomCopy
import Derived.OrdersHeld
import Derived.Laws.BitsLemmas
import Derived.RowKit
import Derived.Test.YtahpmeijinndhaaWWords
import Derived.Test.YtahpmeijinndhaaWLast
import Derived.Test.YtahpmeijinndhaaWTab
import Derived.Test.YtahpmeijinndhaaWFour
import Derived.Test.YtahpmeijinndhaaWQPut
import Derived.Test.YtahpmeijinndhaaWApart
import Derived.Test.YtahpmeijinndhaaWArr
import Derived.Test.YtahpmeijinndhaaWZeros
import Derived.Test.YtahpmeijinndhaaWFoot
import Derived.Test.YtahpmeijinndhaaWKept
import Derived.Test.YtahpmeijinndhaaWShare
import Derived.Test.YtahpmeijinndhaaWN
import Derived.Test.YtahpmeijinndhaaWFootNe
import Derived.Test.YtahpmeijinndhaaWAt
import Derived.Test.YtahpmeijinndhaaWEqStruct
import Derived.Test.YtahpmeijinndhaaWRepsOne
import Derived.Test.YtahpmeijinndhaaWInv
import Derived.Test.YtahpmeijinndhaaWInvWords
import Derived.Test.YtahpmeijinndhaaWGuard
import Derived.Test.YtahpmeijinndhaaWNEv
import Derived.Test.YtahpmeijinndhaaWMore
namespace Go.Proofs.Ytahpmeijinndhaa.P
open Go.RowKit Go.Proofs.YtahpmeijinndhaaW.PrintWords Go.Proofs.YtahpmeijinndhaaW.PrintLast Go.Proofs.YtahpmeijinndhaaW.PrintMore
attribute [local go_sem] max2_int min2_int max_two min_two max_three min_three max_four min_four   -- for this text's walks alone
set_option linter.unusedVariables false
set_option linter.unusedSimpArgs false



def errW : Option Int → Value
  | none => .nilIface
  | some c => .iface 0 (.int .i64 c)
theorem errW_none : errW none = .nilIface := rfl
theorem errW_some (c : Int) : errW (some c) = .iface 0 (.int .i64 c) := rfl

-- the values' own types

end Go.Proofs.Ytahpmeijinndhaa.P
