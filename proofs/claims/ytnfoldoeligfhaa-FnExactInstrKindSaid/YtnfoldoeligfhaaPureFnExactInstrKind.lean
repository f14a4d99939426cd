/- InstrKind of the program and of the reference agree at every list and number; no condition but that they are of ints. -/
import Derived.Test.YtnfoldoeligfhaaPx0
import Derived.Test.YtnfoldoeligfhaaPx8
import Derived.Test.YtnfoldoeligfhaaEV
import Derived.Test.YtnfoldoeligfhaaI1
import Derived.Test.YtnfoldoeligfhaaC1
import Derived.Test.YtnfoldoeligfhaaC2
import Derived.Test.YtnfoldoeligfhaaT1
namespace Go.Proofs.Ytnfoldoeligfhaa.Pure
open Go Go.RowKit Go.Proofs.Ytnfoldoeligfhaa.P Go.Proofs.YtnfoldoeligfhaaW.PrintWords Go.Proofs.YtnfoldoeligfhaaW.PrintLast Go.Proofs.Ytnfoldoeligfhaa.EV Go.Proofs.Ytnfoldoeligfhaa.I1 Go.Proofs.Ytnfoldoeligfhaa.C1 Go.Proofs.Ytnfoldoeligfhaa.C2 Go.Proofs.Ytnfoldoeligfhaa.T1

theorem FnExactInstrKind : ∀ (l0 : List (S47)) (a1 : Int), l0.length ≤ 9223372036854775807 → (∀ x ∈ l0, (Lit.int .i64 x.f0).wf = true ∧ (Lit.int .i64 x.f1).wf = true) → (Lit.int .i64 a1).wf = true → ∃ k, laws_FnExactInstrKind.f k l0 a1 = some true := by
  intro l no hm0 _ _
  refine Ev.rounds ?_
  unfold laws_FnExactInstrKind.f
  by_cases hl : 1048576 < l.length
  · exact Ev_all_k fun k => by rw [sz_Instr l 1048576 (by decide) (by decide) hm0, if_pos (by omega), Option.bind_some, if_pos (by decide)]
  · have hm : l.length ≤ 1048576 := by omega
    have hc : (l.map cvInstr).length ≤ 9223372036854775807 := by rw [List.length_map]; omega
    refine Ev.congr (fun k => by rw [sz_Instr l 1048576 (by decide) (by decide) (by omega), if_neg (by omega), Option.bind_some, if_neg (by omega)]) ?_
    refine Ev_bind (to_Instr l hm) (Ev_bind (kindOkI_s _ no hc) (Ev_bind (to_Instr l hm) (Ev_bind (kindOkI_i _ no hc) ?_)))
    refine Ev.congr (fun k => by rw [if_pos rfl]) ?_
    refine Ev_bind (to_Instr l hm) (Ev_bind (eq_Instr _ hc) ?_)
    exact Ev_all_k fun k => rfl
end Go.Proofs.Ytnfoldoeligfhaa.Pure
