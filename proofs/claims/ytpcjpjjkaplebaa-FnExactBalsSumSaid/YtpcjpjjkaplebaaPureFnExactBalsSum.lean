/- BalsSum of the program and of the reference agree at every list and number; no condition but that they are of ints. -/
import Derived.Test.YtpcjpjjkaplebaaPx0
import Derived.Test.YtpcjpjjkaplebaaPx2
import Derived.Test.YtpcjpjjkaplebaaPx3
import Derived.Test.YtpcjpjjkaplebaaPx7
import Derived.Test.YtpcjpjjkaplebaaEV
import Derived.Test.YtpcjpjjkaplebaaI1
import Derived.Test.YtpcjpjjkaplebaaN1
import Derived.Test.YtpcjpjjkaplebaaB1
import Derived.Test.YtpcjpjjkaplebaaB2
import Derived.Test.YtpcjpjjkaplebaaT1
namespace Go.Proofs.Ytpcjpjjkaplebaa.Pure
open Go Go.RowKit Go.Proofs.Ytpcjpjjkaplebaa.P Go.Proofs.YtpcjpjjkaplebaaW.PrintWords Go.Proofs.YtpcjpjjkaplebaaW.PrintLast Go.Proofs.Ytpcjpjjkaplebaa.EV Go.Proofs.Ytpcjpjjkaplebaa.I1 Go.Proofs.Ytpcjpjjkaplebaa.B1 Go.Proofs.Ytpcjpjjkaplebaa.B2 Go.Proofs.Ytpcjpjjkaplebaa.T1
theorem FnExactBalsSum : ∀ (l0 : List (S66)) (a1 : Int), l0.length ≤ 9223372036854775807 → (∀ x ∈ l0, (Lit.int .i64 x.f0).wf = true ∧ (Lit.int .i64 x.f1).wf = true ∧ (Lit.int .i64 x.f2).wf = true) → (Lit.int .i64 a1).wf = true → ∃ k, laws_FnExactBalsSum.f k l0 a1 = some true := by
  intro l a hm0 _ _
  refine Ev.rounds ?_
  unfold laws_FnExactBalsSum.f
  by_cases hl : 1048576 < l.length
  · exact Ev_all_k fun k => by rw [sz_Bal l 1048576 (by decide) (by decide) hm0, if_pos (by omega), Option.bind_some, if_pos (by decide)]
  · have hm : l.length ≤ 1048576 := by omega
    have hc : (l.map cvBal).length ≤ 9223372036854775807 := by rw [List.length_map]; omega
    refine Ev.congr (fun k => by rw [sz_Bal l 1048576 (by decide) (by decide) (by omega), if_neg (by omega), Option.bind_some, if_neg (by omega)]) ?_
    refine Ev_bind (to_Bal l hm) (Ev_bind (balsSum_s _ a) (Ev_bind (to_Bal l hm) (Ev_bind (balsSum_i _ a hc) ?_)))
    refine Ev.congr (fun k => by rw [if_pos rfl]) ?_
    refine Ev.step (f := fun k => (laws_toBalS.f k l).bind fun t235 => ((laws_eqBalS.f k (l.map cvBal) t235).bind fun t238 => (if t238 = true then (some true) else (some false)))) (fun k => by
      simp only [laws_FnExactBalsSum.j0]
      rw [if_neg (by simp)]) ?_
    refine Ev_bind (to_Bal l hm) (Ev_bind (eq_Bal _ hc) ?_)
    exact Ev_all_k fun k => rfl
end Go.Proofs.Ytpcjpjjkaplebaa.Pure
