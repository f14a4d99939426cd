/- MulIn of the program and of the reference agree at every two ints; no condition but that they are ints. -/
import Derived.Test.YtbgnbbbhjpngiaaPx0
import Derived.Test.YtbgnbbbhjpngiaaPx2
import Derived.Test.YtbgnbbbhjpngiaaA1
import Derived.Test.YtbgnbbbhjpngiaaL1
namespace Go.Proofs.Ytbgnbbbhjpngiaa.Pure
open Go Go.RowKit Go.Proofs.Ytbgnbbbhjpngiaa.P Go.Proofs.YtbgnbbbhjpngiaaW.PrintWords Go.Proofs.YtbgnbbbhjpngiaaW.PrintLast Go.Proofs.Ytbgnbbbhjpngiaa.L1 Go.Proofs.Ytbgnbbbhjpngiaa.A1

theorem FnExactMulIn : laws_FnExactMulIn.Pure := by
  intro a b _ _
  refine ⟨1, ?_⟩
  unfold laws_FnExactMulIn.f
  rw [mulIn_s, mulIn_i]
  simp
end Go.Proofs.Ytbgnbbbhjpngiaa.Pure
