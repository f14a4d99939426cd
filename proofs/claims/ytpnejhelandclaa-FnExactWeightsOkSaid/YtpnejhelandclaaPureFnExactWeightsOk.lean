/- WeightsOk of the program and of the reference agree at every list. -/
import Derived.Test.YtpnejhelandclaaPx0
import Derived.Test.YtpnejhelandclaaPx2
import Derived.Test.YtpnejhelandclaaEV
import Derived.Test.YtpnejhelandclaaI1
import Derived.Test.YtpnejhelandclaaTI
import Derived.Test.YtpnejhelandclaaW1
namespace Go.Proofs.Ytpnejhelandclaa.Pure
open Go Go.RowKit Go.Proofs.Ytpnejhelandclaa.P Go.Proofs.YtpnejhelandclaaW.PrintWords Go.Proofs.YtpnejhelandclaaW.PrintLast Go.Proofs.Ytpnejhelandclaa.EV Go.Proofs.Ytpnejhelandclaa.I1 Go.Proofs.Ytpnejhelandclaa.TI Go.Proofs.Ytpnejhelandclaa.W1
theorem FnExactWeightsOk : laws_FnExactWeightsOk.Pure := by
  intro l hm0 _ _
  have hm1 : l.length ≤ 9223372036854775807 := by have : maxLen ≤ 9223372036854775807 := by decide
                                                  omega
  refine Ev.rounds ?_
  unfold laws_FnExactWeightsOk.f
  by_cases hl : 1048576 < l.length
  · exact Ev_all_k fun k => by rw [if_pos (by omega)]
  · have hm : l.length ≤ 1048576 := by omega
    refine Ev.congr (fun k => by rw [if_neg (by omega)]) ?_
    refine Ev_bind (to_Int l hm) (Ev_bind (weightsOk_s l) (Ev_bind (to_Int l hm) (Ev_bind (weightsOk_i l) ?_)))
    refine Ev.congr (fun k => by rw [if_neg (by simp)]) ?_
    refine Ev_bind (to_Int l hm) (Ev_bind (eq_Int l hm1) ?_)
    exact Ev_all_k fun k => rfl
end Go.Proofs.Ytpnejhelandclaa.Pure
