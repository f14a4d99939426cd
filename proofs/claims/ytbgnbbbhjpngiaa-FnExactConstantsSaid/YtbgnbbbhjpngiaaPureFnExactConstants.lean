/- The law on the constants answers true; no condition. -/
import Derived.Test.YtbgnbbbhjpngiaaPx0
import Derived.Test.YtbgnbbbhjpngiaaPx1
import Derived.Test.YtbgnbbbhjpngiaaL1
namespace Go.Proofs.Ytbgnbbbhjpngiaa.Pure
open Go Go.RowKit Go.Proofs.Ytbgnbbbhjpngiaa.P Go.Proofs.YtbgnbbbhjpngiaaW.PrintWords Go.Proofs.YtbgnbbbhjpngiaaW.PrintLast Go.Proofs.Ytbgnbbbhjpngiaa.L1

theorem FnExactConstants : laws_FnExactConstants.Pure := by
  rfl
end Go.Proofs.Ytbgnbbbhjpngiaa.Pure
