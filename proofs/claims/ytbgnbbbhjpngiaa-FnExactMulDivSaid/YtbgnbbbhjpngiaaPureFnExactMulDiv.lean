/- MulDiv of the program and of the reference agree at every three ints; no condition but that they are ints. -/
import Derived.Test.YtbgnbbbhjpngiaaPx0
import Derived.Test.YtbgnbbbhjpngiaaPx4
import Derived.Test.YtbgnbbbhjpngiaaEV
import Derived.Test.YtbgnbbbhjpngiaaL1
import Derived.Test.YtbgnbbbhjpngiaaI1
import Derived.Test.YtbgnbbbhjpngiaaA2
namespace Go.Proofs.Ytbgnbbbhjpngiaa.Pure
open Go Go.RowKit Go.Proofs.Ytbgnbbbhjpngiaa.P Go.Proofs.YtbgnbbbhjpngiaaW.PrintWords Go.Proofs.YtbgnbbbhjpngiaaW.PrintLast Go.Proofs.Ytbgnbbbhjpngiaa.EV Go.Proofs.Ytbgnbbbhjpngiaa.A2

theorem FnExactMulDiv : laws_FnExactMulDiv.Pure := by
  intro a b c _ _ _
  refine Ev.rounds ?_
  unfold laws_FnExactMulDiv.f
  refine Ev_bind (mulDiv_s a b c) (Ev_bind (mulDiv_i a b c) (Ev_all_k fun k => ?_))
  rw [if_pos rfl, if_pos rfl, if_neg (by simp)]
end Go.Proofs.Ytbgnbbbhjpngiaa.Pure
