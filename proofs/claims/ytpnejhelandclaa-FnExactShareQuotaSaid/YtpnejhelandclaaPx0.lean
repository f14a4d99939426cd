/- A text written by a program of this repo over the seat's translation: plain functions and the walks that tie the Go calls to them. -/
import Derived.Test.YtpnejhelandclaaProg
import Derived.Below
import Derived.Deep.Draws
import Derived.Deep.AppendLies
import Derived.Maps.AppendAt
import Derived.OwnWalk
import Derived.Laws.BytesArg
import Derived.Laws.MakeOwn
import Derived.Laws.OwnMore
import Derived.Deep.OwnRows
import Derived.Tactics
import Derived.Lib.ConvBytes
import Derived.Laws.Slices
import Derived.WalkKit
import Derived.KernelRfl
import Derived.RowKit3
import Derived.Deep.LoopGhost
import Derived.Deep.QuietTactic
import Derived.BigQuiet
import Derived.WideLaws
import Derived.Deep.DeepCutAuto
import Derived.Deep.CutBlock
import Derived.Deep.RegionHeld3
import Derived.Laws.Rows
import Derived.Lib.AppendStr
import Derived.ArgAppend
import Derived.Laws.IdiomCopy
import Derived.OrdersHeld
import Derived.Laws.BitsLemmas
import Derived.RowKit
import Derived.Test.YtpnejhelandclaaX0
import Derived.Test.YtpnejhelandclaaWWords
import Derived.Test.YtpnejhelandclaaWLast
import Derived.Test.YtpnejhelandclaaWTab
import Derived.Test.YtpnejhelandclaaWFour
import Derived.Test.YtpnejhelandclaaWQPut
import Derived.Test.YtpnejhelandclaaWApart
import Derived.Test.YtpnejhelandclaaWArr
import Derived.Test.YtpnejhelandclaaWZeros
import Derived.Test.YtpnejhelandclaaWFoot
import Derived.Test.YtpnejhelandclaaWKept
import Derived.Test.YtpnejhelandclaaWShare
import Derived.Test.YtpnejhelandclaaWN
import Derived.Test.YtpnejhelandclaaWFootNe
import Derived.Test.YtpnejhelandclaaWAt
import Derived.Test.YtpnejhelandclaaWEqStruct
import Derived.Test.YtpnejhelandclaaWRepsOne
import Derived.Test.YtpnejhelandclaaWInv
import Derived.Test.YtpnejhelandclaaWInvWords
import Derived.Test.YtpnejhelandclaaWGuard
import Derived.Test.YtpnejhelandclaaWNEv
import Derived.Test.YtpnejhelandclaaWMore
namespace Go.Proofs.Ytpnejhelandclaa.P
open Go.RowKit Go.Proofs.YtpnejhelandclaaW.PrintWords Go.Proofs.YtpnejhelandclaaW.PrintLast Go.Proofs.YtpnejhelandclaaW.PrintMore
attribute [local go_sem] max2_int min2_int max_two min_two max_three min_three max_four min_four   -- for this text's walks alone
set_option linter.unusedVariables false
set_option linter.unusedSimpArgs false



def errW : Option Int → Value
  | none => .nilIface
  | some c => .iface 0 (.int .i64 c)
theorem errW_none : errW none = .nilIface := rfl
theorem errW_some (c : Int) : errW (some c) = .iface 0 (.int .i64 c) := rfl

theorem info3 : (Try.prog.info? 3).map (fun i => (i.zero, i.size, i.bytes)) = some (some (.int .i64 0), 1, 8) := by kernel_rfl
-- the values' own types

end Go.Proofs.Ytpnejhelandclaa.P
