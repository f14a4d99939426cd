/- One part's quota: the program's answer and the reference's, in closed form. -/
import Derived.Test.YtpnejhelandclaaPx0
import Derived.Test.YtpnejhelandclaaPx1
import Derived.Test.YtpnejhelandclaaPx2
import Derived.Test.YtpnejhelandclaaPx4
import Derived.Test.YtpnejhelandclaaEV
import Derived.Test.YtpnejhelandclaaL1
import Derived.Test.YtpnejhelandclaaI1
import Derived.Test.YtpnejhelandclaaA2
import Derived.Test.YtpnejhelandclaaTI
import Derived.Test.YtpnejhelandclaaW1
namespace Go.Proofs.Ytpnejhelandclaa.W2
open Go Go.RowKit Go.Proofs.Ytpnejhelandclaa.P Go.Proofs.YtpnejhelandclaaW.PrintWords Go.Proofs.YtpnejhelandclaaW.PrintLast Go.Proofs.Ytpnejhelandclaa.EV Go.Proofs.Ytpnejhelandclaa.I1 Go.Proofs.Ytpnejhelandclaa.A2 Go.Proofs.Ytpnejhelandclaa.TI Go.Proofs.Ytpnejhelandclaa.W1
def InT (t : Int) : Prop := 0 ≤ t ∧ t ≤ 1000000000000000
instance (t : Int) : Decidable (InT t) := by unfold InT; exact inferInstance
open Classical in
noncomputable def quota (t : Int) (l : List Int) (i : Int) : Int × Int × Bool := if OkW l ∧ InT t ∧ 0 ≤ i ∧ i < l.length then mdR t (rd l i) l.sum else (0, 0, false)
theorem shareable_i (t : Int) (l : List Int) : Ev (fun k => impl_shareable.f k t l) (okW l && decide (InT t)) := by
  unfold impl_shareable.f
  refine Ev_bind (weightsOk_i l) (Ev_all_k fun k => ?_)
  cases okW l with
  | true => rw [if_pos rfl, in_i, Option.bind_some]; rfl
  | false => rw [if_neg (by decide)]; rfl
theorem quota_no {t : Int} {l : List Int} {i : Int} (h : ¬ (OkW l ∧ InT t ∧ 0 ≤ i ∧ i < l.length)) : quota t l i = (0, 0, false) := if_neg h
theorem quota_yes {t : Int} {l : List Int} {i : Int} (h : OkW l ∧ InT t ∧ 0 ≤ i ∧ i < l.length) : quota t l i = mdR t (rd l i) l.sum := if_pos h
theorem quota_i (t : Int) (l : List Int) (i : Int) : Ev (fun k => impl_ShareQuota.f k t l i) (quota t l i) := by
  unfold impl_ShareQuota.f
  refine Ev_bind (shareable_i t l) ?_
  by_cases h : OkW l
  · by_cases ht : InT t
    · have e : (okW l && decide (InT t)) = true := by rw [(okW_iff l).2 h, decide_eq_true ht]; rfl
      have hl := h.1
      refine Ev.congr (f := fun k => impl_ShareQuota.j0 k t l i (!decide (0 ≤ i ∧ i ≤ (l.length : Int) - 1))) (fun k => by rw [if_pos e, in_i, Option.bind_some, w64_in _ (by omega) (by omega)]) ?_
      by_cases hi : 0 ≤ i ∧ i ≤ (l.length : Int) - 1
      · rw [quota_yes ⟨h, ht, hi.1, by omega⟩]
        refine Ev.step (f := fun k => (impl_sumOf.f k l).bind fun t154 => ((impl_MulDiv.f k t (rd l i) t154).bind fun bt155 => (some (bt155.1, bt155.2.1, bt155.2.2)))) (fun k => by
          simp only [impl_ShareQuota.j0]
          rw [if_neg (by rw [decide_eq_true hi]; decide), if_pos hi.1, if_pos (by omega)]) ?_
        exact Ev_bind (all_i h.few) (Ev_bind (mulDiv_i _ _ _) (Ev_all_k fun k => rfl))
      · rw [quota_no fun g => hi ⟨g.2.2.1, by omega⟩]
        exact Ev_one fun k => by
          simp only [impl_ShareQuota.j0]
          rw [if_pos (by rw [decide_eq_false hi]; rfl)]
    · rw [quota_no fun g => ht g.2.1]
      refine Ev.congr (f := fun k => impl_ShareQuota.j0 k t l i true) (fun k => by rw [if_neg (by rw [decide_eq_false ht, Bool.and_false]; decide)]) ?_
      exact Ev_one fun k => by
        simp only [impl_ShareQuota.j0]
        rw [if_pos trivial]
  · rw [quota_no fun g => h g.1]
    refine Ev.congr (f := fun k => impl_ShareQuota.j0 k t l i true) (fun k => by rw [if_neg (by rw [okW_no h, Bool.false_and]; decide)]) ?_
    exact Ev_one fun k => by
      simp only [impl_ShareQuota.j0]
      rw [if_pos trivial]
theorem quota_s (t : Int) (l : List Int) (i : Int) : Ev (fun k => spec_ShareQuota.f k t l i) (quota t l i) := by
  unfold spec_ShareQuota.f
  refine Ev_bind (weightsOk_s l) ?_
  by_cases h : OkW l
  · by_cases ht : InT t
    · have hl := h.1
      refine Ev.congr (f := fun k => spec_ShareQuota.j0 k t l i (!decide (0 ≤ i ∧ i ≤ (l.length : Int) - 1))) (fun k => by rw [if_pos ((okW_iff l).2 h), some_s1, Option.bind_some, if_pos (decide_eq_true (show 0 ≤ t ∧ t ≤ 1000000000000000 from ht)), in_s, Option.bind_some, w64_in _ (by omega) (by omega)]) ?_
      by_cases hi : 0 ≤ i ∧ i ≤ (l.length : Int) - 1
      · rw [quota_yes ⟨h, ht, hi.1, by omega⟩]
        refine Ev.step (f := fun k => (spec_l2All.f k l).bind fun t136 => ((spec_MulDiv.f k t (rd l i) t136).bind fun bt137 => (some (bt137.1, bt137.2.1, bt137.2.2)))) (fun k => by
          simp only [spec_ShareQuota.j0]
          rw [if_neg (by rw [decide_eq_true hi]; decide), if_pos hi.1, if_pos (by omega)]) ?_
        exact Ev_bind (all_s h.few) (Ev_bind (mulDiv_s _ _ _) (Ev_all_k fun k => rfl))
      · rw [quota_no fun g => hi ⟨g.2.2.1, by omega⟩]
        exact Ev_one fun k => by
          simp only [spec_ShareQuota.j0]
          rw [if_pos (by rw [decide_eq_false hi]; rfl)]
    · rw [quota_no fun g => ht g.2.1]
      refine Ev.congr (f := fun k => spec_ShareQuota.j0 k t l i true) (fun k => by rw [if_pos ((okW_iff l).2 h), some_s1, Option.bind_some, if_neg (by unfold InT at ht; rw [decide_eq_false ht]; decide)]) ?_
      exact Ev_one fun k => by
        simp only [spec_ShareQuota.j0]
        rw [if_pos trivial]
  · rw [quota_no fun g => h g.1]
    refine Ev.congr (f := fun k => spec_ShareQuota.j0 k t l i true) (fun k => by rw [if_neg (by rw [okW_no h]; decide)]) ?_
    exact Ev_one fun k => by
      simp only [spec_ShareQuota.j0]
      rw [if_pos trivial]
end Go.Proofs.Ytpnejhelandclaa.W2
