/- ShareQuota of the program and of the reference agree at every total, list and place. -/
import Derived.Test.YtpnejhelandclaaPx0
import Derived.Test.YtpnejhelandclaaPx1
import Derived.Test.YtpnejhelandclaaPx4
import Derived.Test.YtpnejhelandclaaEV
import Derived.Test.YtpnejhelandclaaI1
import Derived.Test.YtpnejhelandclaaTI
import Derived.Test.YtpnejhelandclaaW1
import Derived.Test.YtpnejhelandclaaW2
namespace Go.Proofs.Ytpnejhelandclaa.Pure
open Go Go.RowKit Go.Proofs.Ytpnejhelandclaa.P Go.Proofs.YtpnejhelandclaaW.PrintWords Go.Proofs.YtpnejhelandclaaW.PrintLast Go.Proofs.Ytpnejhelandclaa.EV Go.Proofs.Ytpnejhelandclaa.I1 Go.Proofs.Ytpnejhelandclaa.TI Go.Proofs.Ytpnejhelandclaa.W1 Go.Proofs.Ytpnejhelandclaa.W2
theorem FnExactShareQuota : laws_FnExactShareQuota.Pure := by
  intro t l i _ hm0 _ _ _
  have hm1 : l.length ≤ 9223372036854775807 := by have : maxLen ≤ 9223372036854775807 := by decide
                                                  omega
  refine Ev.rounds ?_
  unfold laws_FnExactShareQuota.f
  by_cases hl : 1048576 < l.length
  · exact Ev_all_k fun k => by rw [if_pos (by omega)]
  · have hm : l.length ≤ 1048576 := by omega
    refine Ev.congr (fun k => by rw [if_neg (by omega)]) ?_
    refine Ev_bind (to_Int l hm) (Ev_bind (quota_s t l i) (Ev_bind (to_Int l hm) (Ev_bind (quota_i t l i) ?_)))
    refine Ev.congr (fun k => by rw [if_pos rfl, if_pos rfl]) ?_
    refine Ev.step (f := fun k => (laws_toIntS.f k l).bind fun t170 => ((laws_eqIntS.f k l t170).bind fun t173 => (if t173 = true then (some true) else (some false)))) (fun k => by
      simp only [laws_FnExactShareQuota.j0]
      rw [if_neg (by simp)]) ?_
    refine Ev_bind (to_Int l hm) (Ev_bind (eq_Int l hm1) ?_)
    exact Ev_all_k fun k => rfl
end Go.Proofs.Ytpnejhelandclaa.Pure
