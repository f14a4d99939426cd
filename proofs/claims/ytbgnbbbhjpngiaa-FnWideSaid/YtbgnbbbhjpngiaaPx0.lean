/- A text written by a program of this repo over the seat's translation: plain functions and the walks that tie the Go calls to them. -/
import Derived.Test.YtbgnbbbhjpngiaaProg
import Derived.Below
import Derived.Deep.Draws
import Derived.Deep.AppendLies
import Derived.Maps.AppendAt
import Derived.OwnWalk
import Derived.Laws.BytesArg
import Derived.Laws.MakeOwn
import Derived.Laws.OwnMore
import Derived.Deep.OwnRows
import Derived.Tactics
import Derived.Lib.ConvBytes
import Derived.Laws.Slices
import Derived.WalkKit
import Derived.KernelRfl
import Derived.RowKit3
import Derived.Deep.LoopGhost
import Derived.Deep.QuietTactic
import Derived.BigQuiet
import Derived.WideLaws
import Derived.Deep.DeepCutAuto
import Derived.Deep.CutBlock
import Derived.Deep.RegionHeld3
import Derived.Laws.Rows
import Derived.Lib.AppendStr
import Derived.ArgAppend
import Derived.Laws.IdiomCopy
import Derived.OrdersHeld
import Derived.Laws.BitsLemmas
import Derived.RowKit
import Derived.Test.YtbgnbbbhjpngiaaWWords
import Derived.Test.YtbgnbbbhjpngiaaWLast
import Derived.Test.YtbgnbbbhjpngiaaWTab
import Derived.Test.YtbgnbbbhjpngiaaWFour
import Derived.Test.YtbgnbbbhjpngiaaWQPut
import Derived.Test.YtbgnbbbhjpngiaaWApart
import Derived.Test.YtbgnbbbhjpngiaaWArr
import Derived.Test.YtbgnbbbhjpngiaaWZeros
import Derived.Test.YtbgnbbbhjpngiaaWFoot
import Derived.Test.YtbgnbbbhjpngiaaWKept
import Derived.Test.YtbgnbbbhjpngiaaWShare
import Derived.Test.YtbgnbbbhjpngiaaWN
import Derived.Test.YtbgnbbbhjpngiaaWFootNe
import Derived.Test.YtbgnbbbhjpngiaaWAt
import Derived.Test.YtbgnbbbhjpngiaaWEqStruct
import Derived.Test.YtbgnbbbhjpngiaaWRepsOne
import Derived.Test.YtbgnbbbhjpngiaaWInv
import Derived.Test.YtbgnbbbhjpngiaaWInvWords
import Derived.Test.YtbgnbbbhjpngiaaWGuard
import Derived.Test.YtbgnbbbhjpngiaaWNEv
import Derived.Test.YtbgnbbbhjpngiaaWMore
namespace Go.Proofs.Ytbgnbbbhjpngiaa.P
open Go.RowKit Go.Proofs.YtbgnbbbhjpngiaaW.PrintWords Go.Proofs.YtbgnbbbhjpngiaaW.PrintLast Go.Proofs.YtbgnbbbhjpngiaaW.PrintMore
attribute [local go_sem] max2_int min2_int max_two min_two max_three min_three max_four min_four   -- for this text's walks alone
set_option linter.unusedVariables false
set_option linter.unusedSimpArgs false



def errW : Option Int → Value
  | none => .nilIface
  | some c => .iface 0 (.int .i64 c)
theorem errW_none : errW none = .nilIface := rfl
theorem errW_some (c : Int) : errW (some c) = .iface 0 (.int .i64 c) := rfl

theorem info3 : (Try.prog.info? 3).map (fun i => (i.zero, i.size, i.bytes)) = some (some (.int .i64 0), 1, 8) := by kernel_rfl
-- the values' own types

end Go.Proofs.Ytbgnbbbhjpngiaa.P
