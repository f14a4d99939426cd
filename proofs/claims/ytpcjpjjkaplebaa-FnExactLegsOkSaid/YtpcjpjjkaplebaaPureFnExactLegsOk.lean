/- LegsOk of the program and of the reference agree at every list; no condition but that it is of ints. -/
import Derived.Test.YtpcjpjjkaplebaaPx0
import Derived.Test.YtpcjpjjkaplebaaPx6
import Derived.Test.YtpcjpjjkaplebaaEV
import Derived.Test.YtpcjpjjkaplebaaI1
import Derived.Test.YtpcjpjjkaplebaaN1
import Derived.Test.YtpcjpjjkaplebaaG1
import Derived.Test.YtpcjpjjkaplebaaT1
namespace Go.Proofs.Ytpcjpjjkaplebaa.Pure
open Go Go.RowKit Go.Proofs.Ytpcjpjjkaplebaa.P Go.Proofs.YtpcjpjjkaplebaaW.PrintWords Go.Proofs.YtpcjpjjkaplebaaW.PrintLast Go.Proofs.Ytpcjpjjkaplebaa.EV Go.Proofs.Ytpcjpjjkaplebaa.I1 Go.Proofs.Ytpcjpjjkaplebaa.G1 Go.Proofs.Ytpcjpjjkaplebaa.T1
theorem FnExactLegsOk : ∀ (l0 : List (S70)), l0.length ≤ 9223372036854775807 → (∀ x ∈ l0, (Lit.int .i64 x.f0).wf = true ∧ (Lit.int .i64 x.f1).wf = true ∧ (Lit.int .i64 x.f2).wf = true) → ∃ k, laws_FnExactLegsOk.f k l0 = some true := by
  intro l hm0 _
  refine Ev.rounds ?_
  unfold laws_FnExactLegsOk.f
  by_cases hl : 1048576 < l.length
  · exact Ev_all_k fun k => by rw [sz_Leg l 1048576 (by decide) (by decide) hm0, if_pos (by omega), Option.bind_some, if_pos (by decide)]
  · have hm : l.length ≤ 1048576 := by omega
    have hc : (l.map cvLeg).length ≤ 9223372036854775807 := by rw [List.length_map]; omega
    refine Ev.congr (fun k => by rw [sz_Leg l 1048576 (by decide) (by decide) (by omega), if_neg (by omega), Option.bind_some, if_neg (by omega)]) ?_
    refine Ev_bind (to_Leg l hm) (Ev_bind (legsOk_s _) (Ev_bind (to_Leg l hm) (Ev_bind (legsOk_i _) ?_)))
    refine Ev.congr (fun k => by rw [if_neg (by simp)]) ?_
    refine Ev_bind (to_Leg l hm) (Ev_bind (eq_Leg _ hc) ?_)
    exact Ev_all_k fun k => rfl
end Go.Proofs.Ytpcjpjjkaplebaa.Pure
