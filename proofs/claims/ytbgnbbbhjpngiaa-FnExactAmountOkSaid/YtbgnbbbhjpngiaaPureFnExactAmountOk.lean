/- AmountOk of the program and of the reference agree at every int; no condition but that it is an int. -/
import Derived.Test.YtbgnbbbhjpngiaaPx0
import Derived.Test.YtbgnbbbhjpngiaaPx1
import Derived.Test.YtbgnbbbhjpngiaaA1
import Derived.Test.YtbgnbbbhjpngiaaL1
namespace Go.Proofs.Ytbgnbbbhjpngiaa.Pure
open Go Go.RowKit Go.Proofs.Ytbgnbbbhjpngiaa.P Go.Proofs.YtbgnbbbhjpngiaaW.PrintWords Go.Proofs.YtbgnbbbhjpngiaaW.PrintLast Go.Proofs.Ytbgnbbbhjpngiaa.L1 Go.Proofs.Ytbgnbbbhjpngiaa.A1

theorem FnExactAmountOk : laws_FnExactAmountOk.Pure := by
  intro a h
  unfold laws_FnExactAmountOk.f
  rw [amountOk_s, amountOk_i]
  simp
end Go.Proofs.Ytbgnbbbhjpngiaa.Pure
