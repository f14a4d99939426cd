/- The tests of a number and of an amount, in closed form. -/
import Derived.Test.YtpcjpjjkaplebaaPx0
import Derived.Test.YtpcjpjjkaplebaaPx2
import Derived.Test.YtpcjpjjkaplebaaEV
import Derived.Test.YtpcjpjjkaplebaaI1
namespace Go.Proofs.Ytpcjpjjkaplebaa.N1
open Go Go.RowKit Go.Proofs.Ytpcjpjjkaplebaa.P Go.Proofs.YtpcjpjjkaplebaaW.PrintWords Go.Proofs.YtpcjpjjkaplebaaW.PrintLast Go.Proofs.Ytpcjpjjkaplebaa.EV Go.Proofs.Ytpcjpjjkaplebaa.I1
def No (a : Int) : Prop := 1 ≤ a ∧ a ≤ 1000
def Amt (a : Int) : Prop := -1000000000000000 ≤ a ∧ a ≤ 1000000000000000
instance (a : Int) : Decidable (No a) := by unfold No; exact inferInstance
instance (a : Int) : Decidable (Amt a) := by unfold Amt; exact inferInstance
theorem no_s (a : Int) : spec_l3No.f a = some (decide (No a)) := by unfold spec_l3No.f; rw [in_s]; rfl
theorem no_i (a : Int) : impl_isNo.f a = some (decide (No a)) := by unfold impl_isNo.f; rw [in_i]; rfl
theorem amt_s (a : Int) : spec_AmountOk.f a = some (decide (Amt a)) := by unfold spec_AmountOk.f; rw [in_s]; rfl
theorem amt_i (a : Int) : impl_AmountOk.f a = some (decide (Amt a)) := by unfold impl_AmountOk.f; rw [in_i]; rfl
end Go.Proofs.Ytpcjpjjkaplebaa.N1
