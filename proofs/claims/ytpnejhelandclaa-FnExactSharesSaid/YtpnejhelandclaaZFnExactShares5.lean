/- Shares of the program and of the reference agree at every total and list, and what is told is the caller's own; no condition but that they are of ints. -/
import Derived.Test.YtpnejhelandclaaZFnExactShares4
import Derived.SizedLaws
import Derived.ChangeSlices
import Derived.Test.YtpnejhelandclaaRows
import Derived.WalkKit
import Derived.ProofKit
import Derived.OpenShut
import Derived.ShutString
import Derived.ChangeOld
import Derived.Below
namespace Go.Proofs.Ytpnejhelandclaa.P
end Go.Proofs.Ytpnejhelandclaa.P
namespace Go.Proofs.Ytpnejhelandclaa.EV
end Go.Proofs.Ytpnejhelandclaa.EV
namespace Go.Proofs.Ytpnejhelandclaa.I1
end Go.Proofs.Ytpnejhelandclaa.I1
namespace Go.Proofs.Ytpnejhelandclaa.A2
end Go.Proofs.Ytpnejhelandclaa.A2
namespace Go.Proofs.Ytpnejhelandclaa.TI
end Go.Proofs.Ytpnejhelandclaa.TI
namespace Go.Proofs.Ytpnejhelandclaa.W1
end Go.Proofs.Ytpnejhelandclaa.W1
namespace Go.Proofs.Ytpnejhelandclaa.W2
end Go.Proofs.Ytpnejhelandclaa.W2
namespace Go.Proofs.Ytpnejhelandclaa.W3
end Go.Proofs.Ytpnejhelandclaa.W3
namespace Go.Proofs.Ytpnejhelandclaa.S7
end Go.Proofs.Ytpnejhelandclaa.S7
namespace Go.Proofs.Ytpnejhelandclaa.W4
end Go.Proofs.Ytpnejhelandclaa.W4
namespace Go.Proofs.Ytpnejhelandclaa.M1
end Go.Proofs.Ytpnejhelandclaa.M1
namespace Go.Proofs.Ytpnejhelandclaa.W4
open Go Go.RowKit Go.Proofs.Ytpnejhelandclaa Go.Proofs.Ytpnejhelandclaa.P Go.Proofs.YtpnejhelandclaaW.PrintWords Go.Proofs.YtpnejhelandclaaW.PrintLast Go.Proofs.Ytpnejhelandclaa.EV Go.Proofs.Ytpnejhelandclaa.I1 Go.Proofs.Ytpnejhelandclaa.A2 Go.Proofs.Ytpnejhelandclaa.TI Go.Proofs.Ytpnejhelandclaa.W1 Go.Proofs.Ytpnejhelandclaa.W2 Go.Proofs.Ytpnejhelandclaa.W3 Go.Proofs.Ytpnejhelandclaa.S7
noncomputable def qt (t : Int) (l : List Int) (j : Int) : Int := (quota t l j).1
noncomputable def qP (t : Int) (l : List Int) (i : Nat) : List Int := (List.range i).map fun j : Nat => qt t l (j : Int)
def incL (Q : List Int) (xs : List Int) : List Int := xs.foldl (fun Q x => Q.set x.toNat (wrap64 (rd Q x + 1))) Q
theorem incL_snoc (Q xs : List Int) (x : Int) : incL Q (xs ++ [x]) = (incL Q xs).set x.toNat (wrap64 (rd (incL Q xs) x + 1)) := by unfold incL; rw [List.foldl_append]; rfl
theorem incL_length (Q : List Int) : ∀ xs : List Int, (incL Q xs).length = Q.length := by
  intro xs
  induction xs generalizing Q with
  | nil => rfl
  | cons x xs ih =>
    show (incL (Q.set x.toNat (wrap64 (rd Q x + 1))) xs).length = _
    rw [ih, List.length_set]
section
variable (t : Int) (l : List Int)
theorem qP_succ (i : Nat) : qP t l (i + 1) = qP t l i ++ [qt t l (i : Int)] := by unfold qP; rw [List.range_succ, List.map_append]; rfl
theorem qP_length (i : Nat) : (qP t l i).length = i := by unfold qP; rw [List.length_map, List.length_range]
variable {t l}
theorem mul_le_left {t w W : Int} (ht : 0 ≤ t) (h : w ≤ W) (hW : 0 < W) : t * w / W ≤ t := by
  have : t * w ≤ t * W := Int.mul_le_mul_of_nonneg_left h ht
  exact Int.ediv_le_of_le_mul hW this
theorem le_sum : ∀ (l : List Int), (∀ x ∈ l, 0 ≤ x) → ∀ x ∈ l, x ≤ l.sum
  | [], _, x, h => by cases h
  | y :: l, h0, x, h => by
    rw [List.sum_cons]
    have hs : ∀ (l : List Int), (∀ x ∈ l, 0 ≤ x) → 0 ≤ l.sum := by
      intro l
      induction l with
      | nil => intro _; simp
      | cons z l ih =>
        intro h
        rw [List.sum_cons]
        have := h z (List.mem_cons_self ..)
        have := ih fun x hx => h x (List.mem_cons_of_mem _ hx)
        omega
    rcases List.mem_cons.1 h with rfl | h
    · have := hs l fun x hx => h0 x (List.mem_cons_of_mem _ hx)
      omega
    · have := le_sum l (fun x hx => h0 x (List.mem_cons_of_mem _ hx)) x h
      have := h0 y (List.mem_cons_self ..)
      omega
theorem part (ho : OkW l) (ht : InT t) (j : Nat) (hj : j < l.length) : quota t l (j : Int) = (t * l.getD j 0 / l.sum, t * l.getD j 0 % l.sum, true) := by
  rw [quota_yes ⟨ho, ht, by omega, by omega⟩, rdi]
  have hf := ho.few.at j hj
  have hm : l.getD j 0 ∈ l := by
    rw [List.getD_eq_getElem?_getD, List.getElem?_eq_getElem hj]
    exact List.getElem_mem _
  have hs := le_sum l (fun x hx => (ho.1.2.2 x hx).1) _ hm
  have h2 := ho.2
  have := mul_le_left ht.1 hs (by omega)
  have := ht.2
  exact md_yes ⟨ht, hf, h2, by omega⟩
theorem qt_eq (ho : OkW l) (ht : InT t) (j : Nat) (hj : j < l.length) : qt t l (j : Int) = t * l.getD j 0 / l.sum := by unfold qt; rw [part ho ht j hj]
theorem rm_eq (ho : OkW l) (ht : InT t) (j : Nat) (hj : j < l.length) : rm t l (j : Int) = t * l.getD j 0 % l.sum := by unfold rm; rw [part ho ht j hj]
theorem rm_range (ho : OkW l) (ht : InT t) (j : Nat) (hj : j < l.length) : 0 ≤ rm t l (j : Int) ∧ rm t l (j : Int) < l.sum := by
  have h2 := ho.2
  rw [rm_eq ho ht j hj]
  exact ⟨Int.emod_nonneg _ (by omega), Int.emod_lt_of_pos _ (by omega)⟩
theorem qt_range (ho : OkW l) (ht : InT t) (j : Nat) (hj : j < l.length) : 0 ≤ qt t l (j : Int) ∧ qt t l (j : Int) ≤ t := by
  have h2 := ho.2
  have hf := ho.few.at j hj
  have hm : l.getD j 0 ∈ l := by
    rw [List.getD_eq_getElem?_getD, List.getElem?_eq_getElem hj]
    exact List.getElem_mem _
  have hs := le_sum l (fun x hx => (ho.1.2.2 x hx).1) _ hm
  rw [qt_eq ho ht j hj]
  exact ⟨Int.ediv_nonneg (Int.mul_nonneg ht.1 hf.1) (by omega), mul_le_left ht.1 hs (by omega)⟩
theorem take_sum (i : Nat) (hi : i < l.length) : (l.take (i + 1)).sum = (l.take i).sum + l.getD i 0 := by
  rw [List.take_add_one, List.getElem?_eq_getElem hi, List.getD_eq_getElem?_getD, List.getElem?_eq_getElem hi, List.sum_append]
  simp
theorem sums (ho : OkW l) (ht : InT t) : ∀ i : Nat, i ≤ l.length → (qP t l i).sum * l.sum + (overP t l i).sum = t * (l.take i).sum ∧ 0 ≤ (overP t l i).sum ∧ (overP t l i).sum ≤ i * (l.sum - 1) ∧ 0 ≤ (qP t l i).sum ∧ (qP t l i).sum ≤ i * t
  | 0, _ => by
    refine ⟨?_, ?_, ?_, ?_, ?_⟩ <;> simp [qP, overP]
  | i + 1, hi => by
    obtain ⟨h1, h2, h3, h4, h5⟩ := sums ho ht i (by omega)
    have hr := rm_range ho ht i (by omega)
    have hq := qt_range ho ht i (by omega)
    have e : qt t l (i : Int) * l.sum + rm t l (i : Int) = t * l.getD i 0 := by
      rw [qt_eq ho ht i (by omega), rm_eq ho ht i (by omega)]
      exact Int.ediv_mul_add_emod _ _
    rw [qP_succ, overP_succ, take_sum i (by omega), List.sum_append, List.sum_append, Int.mul_add, Int.add_mul]
    have e1 : ([qt t l (i : Int)] : List Int).sum = qt t l (i : Int) := by simp
    have e2 : ([rm t l (i : Int)] : List Int).sum = rm t l (i : Int) := by simp
    have e3 : ((i + 1 : Nat) : Int) * (l.sum - 1) = (i : Int) * (l.sum - 1) + (l.sum - 1) := by rw [Int.natCast_add, Int.add_mul]; simp
    have e4 : ((i + 1 : Nat) : Int) * t = (i : Int) * t + t := by rw [Int.natCast_add, Int.add_mul]; simp
    rw [e1, e2, e3, e4]
    refine ⟨by omega, by omega, by omega, by omega, by omega⟩
theorem more_range (ho : OkW l) (ht : InT t) : (t - (qP t l l.length).sum) * l.sum = (overP t l l.length).sum ∧ 0 ≤ t - (qP t l l.length).sum ∧ t - (qP t l l.length).sum < l.length := by
  obtain ⟨h1, h2, h3, _, _⟩ := sums ho ht l.length (Nat.le_refl _)
  rw [List.take_length] at h1
  have hW := ho.2.1
  have hn := ho.1.1
  have e : (t - (qP t l l.length).sum) * l.sum = (overP t l l.length).sum := by rw [Int.sub_mul]; omega
  refine ⟨e, ?_, ?_⟩
  · apply Classical.byContradiction
    intro h
    have : (t - (qP t l l.length).sum) * l.sum < 0 := Int.mul_neg_of_neg_of_pos (by omega) (by omega)
    omega
  · apply Classical.byContradiction
    intro h
    have h4 : (l.length : Int) * l.sum ≤ (t - (qP t l l.length).sum) * l.sum := Int.mul_le_mul_of_nonneg_right (by omega) (by omega)
    have h5 : (l.length : Int) * (l.sum - 1) = (l.length : Int) * l.sum - l.length := by rw [Int.mul_sub, Int.mul_one]
    omega
theorem qP_few (ho : OkW l) (ht : InT t) : Few (qP t l l.length) := by
  have hn := ho.1.2.1
  refine ⟨by rw [qP_length]; omega, fun x hx => ?_⟩
  unfold qP at hx
  obtain ⟨j, hj, rfl⟩ := List.mem_map.1 hx
  have := qt_range ho ht j (List.mem_range.1 hj)
  have := ht.2
  omega
variable (t l)
noncomputable def moreN : Nat := (t - (qP t l l.length).sum).toNat
noncomputable def sharesR : List Int × Bool := if okW l = true ∧ InT t then (incL (qP t l l.length) ((ord (rm t l) l.length).take (moreN t l)), true) else ([], false)
variable {t l}
theorem inc_i (Q y : List Int) (hy : ∀ x ∈ y, 0 ≤ x ∧ x < Q.length) (hyl : y.length ≤ 40) : ∀ (d i : Nat), y.length - i = d → i ≤ y.length → Ev (fun k => impl_Shares.l1 k (incL Q (y.take i)) y (y.length : Int) (i : Int)) (incL Q y, true) := by
  intro d
  induction d with
  | zero =>
    intro i hd hi
    obtain rfl : i = y.length := by omega
    exact Ev_one fun k => by
      simp only [impl_Shares.l1]
      rw [if_neg (by omega), List.take_length]
  | succ d ih =>
    intro i hd hi
    have hx : y.getD i 0 ∈ y := by
      rw [List.getD_eq_getElem?_getD, List.getElem?_eq_getElem (by omega : i < y.length)]
      exact List.getElem_mem _
    have hb := hy _ hx
    have e : y.take (i + 1) = y.take i ++ [y.getD i 0] := by
      rw [List.take_add_one, List.getElem?_eq_getElem (by omega : i < y.length), List.getD_eq_getElem?_getD, List.getElem?_eq_getElem (by omega : i < y.length)]
      rfl
    refine Ev.step (fun k => ?_) (ih (i + 1) (by omega) (by omega))
    simp only [impl_Shares.l1]
    rw [if_pos (by omega), if_pos (by omega), if_pos (by omega), rdi, if_pos hb.1, if_pos (by rw [incL_length]; exact hb.2), w_succ (by omega : i < y.length) (by omega), e, incL_snoc]
theorem inc_s (Q y : List Int) (left : Nat) (hy : ∀ x ∈ y, 0 ≤ x ∧ x < Q.length) (hyl : y.length ≤ 40) (hl : left ≤ y.length) : ∀ (d i : Nat), left - i = d → i ≤ left → Ev (fun k => spec_Shares.l1 k (incL Q (y.take i)) (left : Int) y (i : Int)) (incL Q (y.take left), true) := by
  intro d
  induction d with
  | zero =>
    intro i hd hi
    obtain rfl : i = left := by omega
    exact Ev_one fun k => by
      simp only [spec_Shares.l1]
      rw [if_neg (by omega)]
  | succ d ih =>
    intro i hd hi
    have hx : y.getD i 0 ∈ y := by
      rw [List.getD_eq_getElem?_getD, List.getElem?_eq_getElem (by omega : i < y.length)]
      exact List.getElem_mem _
    have hb := hy _ hx
    have e : y.take (i + 1) = y.take i ++ [y.getD i 0] := by
      rw [List.take_add_one, List.getElem?_eq_getElem (by omega : i < y.length), List.getD_eq_getElem?_getD, List.getElem?_eq_getElem (by omega : i < y.length)]
      rfl
    refine Ev.step (fun k => ?_) (ih (i + 1) (by omega) (by omega))
    simp only [spec_Shares.l1]
    rw [if_pos (by omega), if_pos (by omega), if_pos (by omega), rdi, if_pos hb.1, if_pos (by rw [incL_length]; exact hb.2), w_succ (by omega : i < y.length) (by omega), e, incL_snoc]
theorem ordR_yes (ho : OkW l) (ht : InT t) : ordR t l = ord (rm t l) l.length := by unfold ordR; rw [if_pos ⟨(okW_iff l).2 ho, ht⟩]
theorem parts_i (ho : OkW l) (ht : InT t) : ∀ (d i : Nat), l.length - i = d → i ≤ l.length → Ev (fun k => impl_Shares.l0 k t l (qP t l i) (l.length : Int) (i : Int)) (incL (qP t l l.length) ((ord (rm t l) l.length).take (moreN t l)), true) := by
  have hn := ho.1.2.1
  have hm := more_range ho ht
  have hmn : ((moreN t l : Nat) : Int) = t - (qP t l l.length).sum := by unfold moreN; omega
  have ol := ord_length (rm t l) (show l.length ≤ 40 by omega)
  have hs := sums ho ht l.length (Nat.le_refl _)
  intro d
  induction d with
  | zero =>
    intro i hd hi
    obtain rfl : i = l.length := by omega
    have h0 := ordR_yes ho ht ▸ shareOrder_i t l
    have hy : ∀ x ∈ (ord (rm t l) l.length).take (moreN t l), 0 ≤ x ∧ x < (qP t l l.length).length := fun x hx => by
      rw [qP_length]
      exact (ord_mem (rm t l) (by omega)).1 (List.mem_of_mem_take hx)
    have fin := inc_i (qP t l l.length) ((ord (rm t l) l.length).take (moreN t l)) hy (by rw [List.length_take]; omega) _ 0 rfl (by omega)
    have ht' := ht
    unfold InT at ht'
    have ew : wrap64 (t - (qP t l l.length).sum) = ((moreN t l : Nat) : Int) := by rw [hmn]; exact w64_in _ (by omega) (by omega)
    refine Ev.step (f := fun k => (impl_sumOf.f k (qP t l l.length)).bind fun t291 => ((impl_ShareOrder.f k t l).bind fun t292 => (if 0 ≤ (wrap64 (t - t291)) then (if (wrap64 (t - t291)) ≤ (t292.length : Int) then ((some (t292.take ((wrap64 (t - t291)) : Int).toNat : List Int)).bind fun y295 => (impl_Shares.l1 k (qP t l l.length) y295 (y295.length : Int) 0)) else (none)) else (none)))) (fun k => ?_) (Ev_bind (all_i (qP_few ho ht)) (Ev_bind h0 (Ev.congr (fun k => ?_) fin)))
    · simp only [impl_Shares.l0]
      rw [if_neg (by omega)]
    · rw [ew, if_pos (by omega), if_pos (by omega), Option.bind_some, Int.toNat_natCast]
      rfl
  | succ d ih =>
    intro i hd hi
    refine Ev.step (f := fun k => (impl_ShareQuota.f k t l (i : Int)).bind fun bt285 => (if (qP t l i).length < 17592186044416 then (impl_Shares.l0 k t l (qP t l i ++ [bt285.1]) (l.length : Int) (wrap64 ((i : Int) + 1))) else (none))) (fun k => ?_) (Ev_bind (quota_i t l i) (Ev.congr (fun k => ?_) (ih (i + 1) (by omega) (by omega))))
    · simp only [impl_Shares.l0]
      rw [if_pos (by omega)]
    · rw [if_pos (by rw [qP_length]; omega), qP_succ, w_succ (by omega : i < l.length) (by omega)]
      rfl
theorem parts_s (ho : OkW l) (ht : InT t) : ∀ (d i : Nat), l.length - i = d → i ≤ l.length → Ev (fun k => spec_Shares.l0 k t l (qP t l i) (t - (qP t l i).sum) (i : Int)) (incL (qP t l l.length) ((ord (rm t l) l.length).take (moreN t l)), true) := by
  have hn := ho.1.2.1
  have hm := more_range ho ht
  have hmn : ((moreN t l : Nat) : Int) = t - (qP t l l.length).sum := by unfold moreN; omega
  have ol := ord_length (rm t l) (show l.length ≤ 40 by omega)
  have ht' := ht
  unfold InT at ht'
  intro d
  induction d with
  | zero =>
    intro i hd hi
    obtain rfl : i = l.length := by omega
    have h0 := ordR_yes ho ht ▸ shareOrder_s t l
    have fin := inc_s (qP t l l.length) (ord (rm t l) l.length) (moreN t l) (fun x hx => by rw [qP_length]; exact (ord_mem (rm t l) (by omega)).1 hx) (by omega) (by omega) _ 0 rfl (by omega)
    refine Ev.step (f := fun k => (spec_ShareOrder.f k t l).bind fun t274 => (spec_Shares.l1 k (qP t l l.length) ((moreN t l : Nat) : Int) t274 0)) (fun k => ?_) (Ev_bind h0 fin)
    simp only [spec_Shares.l0]
    rw [if_neg (by omega), hmn]
  | succ d ih =>
    intro i hd hi
    have hs := sums ho ht i (by omega)
    have hq := qt_range ho ht i (by omega)
    have hb : (i : Int) * t ≤ 40 * 1000000000000000 := by
      have h1 : (i : Int) * t ≤ 40 * t := Int.mul_le_mul_of_nonneg_right (by omega) ht'.1
      omega
    refine Ev.step (f := fun k => (spec_ShareQuota.f k t l (i : Int)).bind fun bt268 => (if (qP t l i).length < 17592186044416 then (spec_Shares.l0 k t l (qP t l i ++ [bt268.1]) (wrap64 ((t - (qP t l i).sum) - bt268.1)) (wrap64 ((i : Int) + 1))) else (none))) (fun k => ?_) (Ev_bind (quota_s t l i) (Ev.congr (fun k => ?_) (ih (i + 1) (by omega) (by omega))))
    · simp only [spec_Shares.l0]
      rw [if_pos (by omega)]
    · have es : (qP t l (i + 1)).sum = (qP t l i).sum + qt t l i := by rw [qP_succ, List.sum_append]; simp
      have e : wrap64 ((t - (qP t l i).sum) - qt t l i) = t - (qP t l (i + 1)).sum := by
        rw [es, w64_in _ (by omega) (by omega)]
        omega
      show (if (qP t l i).length < 17592186044416 then (spec_Shares.l0 k t l (qP t l i ++ [qt t l i]) (wrap64 ((t - (qP t l i).sum) - qt t l i)) (wrap64 ((i : Int) + 1))) else (none)) = _
      rw [if_pos (by rw [qP_length]; omega), e, qP_succ, w_succ (by omega : i < l.length) (by omega)]
variable (t l)
theorem shares_i : Ev (fun k => impl_Shares.f k t l) (sharesR t l) := by
  unfold impl_Shares.f sharesR
  refine Ev_bind (shareable_i t l) ?_
  by_cases h : okW l = true
  · by_cases ht : InT t
    · rw [if_pos ⟨h, ht⟩]
      refine Ev.congr (fun k => ?_) (parts_i ((okW_iff l).1 h) ht l.length 0 (by omega) (by omega))
      rw [h, decide_eq_true ht, if_pos (by decide)]
      rfl
    · rw [if_neg (fun g => ht g.2)]
      exact Ev_all_k fun k => by rw [h, decide_eq_false ht, if_neg (by decide)]
  · rw [if_neg (fun g => h g.1)]
    exact Ev_all_k fun k => by rw [Bool.eq_false_iff.2 h, Bool.false_and, if_neg (by decide)]
theorem shares_s : Ev (fun k => spec_Shares.f k t l) (sharesR t l) := by
  unfold spec_Shares.f sharesR
  refine Ev.congr (f := fun k => (spec_WeightsOk.f k l).bind fun t266 => (if t266 = true then ((spec_l1Some.f t 0).bind fun t267 => (spec_Shares.j0 k t l [] (!t267))) else (spec_Shares.j0 k t l [] true))) (fun k => rfl) (Ev_bind (weightsOk_s l) ?_)
  have no : Ev (fun k => spec_Shares.j0 k t l [] true) ([], false) := Ev_one fun k => by
    simp only [spec_Shares.j0]
    rw [if_pos trivial]
  by_cases h : okW l = true
  · by_cases ht : InT t
    · rw [if_pos ⟨h, ht⟩]
      have h0 := parts_s ((okW_iff l).1 h) ht l.length 0 (by omega) (by omega)
      refine Ev.congr (f := fun k => spec_Shares.j0 k t l [] false) (fun k => ?_) (Ev.step (fun k => ?_) h0)
      · rw [if_pos h, some_s1, Option.bind_some, decide_eq_true (show 0 ≤ t ∧ t ≤ 1000000000000000 from ht)]
        rfl
      · simp only [spec_Shares.j0]
        rw [if_neg (by decide)]
        show spec_Shares.l0 k t l [] t 0 = spec_Shares.l0 k t l [] (t - ([] : List Int).sum) 0
        rw [List.sum_nil, Int.sub_zero]
    · rw [if_neg (fun g => ht g.2)]
      refine Ev.congr (fun k => ?_) no
      rw [if_pos h, some_s1, Option.bind_some, decide_eq_false (show ¬ (0 ≤ t ∧ t ≤ 1000000000000000) from ht)]
      rfl
  · rw [if_neg (fun g => h g.1)]
    exact Ev.congr (fun k => by rw [if_neg h]) no
theorem sharesR_length : (sharesR t l).1.length ≤ 40 := by
  unfold sharesR
  split
  · rename_i h
    have := ((okW_iff l).1 h.1).1
    show (incL _ _).length ≤ 40
    rw [incL_length, qP_length]
    omega
  · exact Nat.zero_le _
end
end Go.Proofs.Ytpnejhelandclaa.W4
namespace Go.Proofs.Ytpnejhelandclaa.M1
open Go Go.RowKit Go.Proofs.Ytpnejhelandclaa.P Go.Proofs.YtpnejhelandclaaW.PrintWords Go.Proofs.YtpnejhelandclaaW.PrintLast Go.Proofs.Ytpnejhelandclaa.EV
def mkInt (c : Int) (n : Nat) : List Int := (List.range n).map fun (j : Nat) => c + (j : Int)
theorem mkInt_len (c : Int) (n : Nat) : (mkInt c n).length = n := by unfold mkInt; simp
theorem mkInt_at (c : Int) (n j : Nat) (h : j < n) : (mkInt c n).getD j 0 = c + (j : Int) := by
  unfold mkInt
  rw [List.getD_eq_getElem?_getD, List.getElem?_map, List.getElem?_range h]
  rfl
theorem mark_Int (l : List Int) (c : Int) (h0 : 0 ≤ c) (h1 : c ≤ 1000000000000) (hl : l.length ≤ 1048577) : Ev (fun k => laws_markIntS.f k l c) (c + (l.length : Int), mkInt c l.length) := by
  unfold laws_markIntS.f
  have h := Ev_goes (fun k (s : List Int × Int) i => laws_markIntS.l0 k s.1 s.2 i) l.length (fun _ _ => (c + (l.length : Int), mkInt c l.length)) (fun i s => s.1.length = l.length ∧ s.2 = c + (i : Int) ∧ ∀ j, j < i → s.1.getD j 0 = c + (j : Int))
    (fun s hs => Ev_one fun k => by
      obtain ⟨s1, s2, s3⟩ := hs
      simp only [laws_markIntS.l0]
      rw [if_neg (by omega), s2]
      congr 2
      refine ext_getD 0 (by rw [mkInt_len, s1]) fun i hi => ?_
      rw [s3 i (by omega), mkInt_at _ _ _ (by omega)])
    (fun i s hi hs => by
      obtain ⟨s1, s2, s3⟩ := hs
      obtain ⟨l1, x⟩ := s
      dsimp only at s1 s2 s3
      refine .inr ⟨(l1.set i x, c + ((i + 1 : Nat) : Int)), ⟨by rw [List.length_set]; exact s1, rfl, fun j hj => ?_⟩, rfl, fun k => ?_⟩
      · rw [getD_set]
        by_cases e : i = j
        · subst e
          rw [if_pos ⟨rfl, by omega⟩, s2]
        · rw [if_neg (fun g => e g.1)]
          exact s3 j (by omega)
      · show laws_markIntS.l0 (k + 1) l1 x (i : Int) = _
        simp only [laws_markIntS.l0]
        rw [if_pos (by omega), if_pos (by omega), w_succ hi (by omega), Int.toNat_natCast, s2, w64_in _ (by omega) (by omega)]
        have e2 : c + ((i + 1 : Nat) : Int) = c + (i : Int) + 1 := by omega
        rw [e2]) l.length 0 (l, c) (by omega) (by omega) ⟨rfl, by omega, fun j hj => by omega⟩
  exact h
theorem rdM_Int (l : List Int) (i : Nat) : rd l (i : Int) = l.getD i 0 := by unfold rd; rw [Int.toNat_natCast]
theorem held_Int (n : Nat) (c : Int) (h0 : 0 ≤ c) (h1 : c ≤ 1000000000000) (hl : n ≤ 1048577) : Ev (fun k => laws_heldIntS.f k (mkInt c n) c) (c + (n : Int)) := by
  unfold laws_heldIntS.f
  have h := Ev_goes (fun k (s : Int) i => laws_heldIntS.l0 k (mkInt c n) s i) n (fun _ _ => c + (n : Int)) (fun i s => s = c + (i : Int))
    (fun s hs => Ev_one fun k => by
      simp only [laws_heldIntS.l0]
      rw [if_neg (by rw [mkInt_len]; omega), hs])
    (fun i s hi hs => by
      refine .inr ⟨c + ((i + 1 : Nat) : Int), rfl, rfl, fun k => ?_⟩
      show laws_heldIntS.l0 (k + 1) (mkInt c n) s (i : Int) = _
      subst hs
      simp only [laws_heldIntS.l0]
      rw [if_pos (by rw [mkInt_len]; omega), if_pos (by omega), w_succ hi (by omega)]
      simp only [rdM_Int, mkInt_at c n i hi]
      have e2 : c + ((i + 1 : Nat) : Int) = c + (i : Int) + 1 := by omega
      rw [if_pos trivial, w64_in _ (by omega) (by omega), e2]) n 0 c (by omega) (by omega) (by omega)
  exact h
end Go.Proofs.Ytpnejhelandclaa.M1
namespace Go.Proofs.Ytpnejhelandclaa.Pure
open Go Go.RowKit Go.Proofs.Ytpnejhelandclaa.P Go.Proofs.YtpnejhelandclaaW.PrintWords Go.Proofs.YtpnejhelandclaaW.PrintLast Go.Proofs.Ytpnejhelandclaa.EV Go.Proofs.Ytpnejhelandclaa.I1 Go.Proofs.Ytpnejhelandclaa.TI Go.Proofs.Ytpnejhelandclaa.W1 Go.Proofs.Ytpnejhelandclaa.W2 Go.Proofs.Ytpnejhelandclaa.W3 Go.Proofs.Ytpnejhelandclaa.W4 Go.Proofs.Ytpnejhelandclaa.M1
theorem FnExactShares : laws_FnExactShares.Pure := by
  intro t l _ hm0 _ _
  have hm1 : l.length ≤ 9223372036854775807 := by have : maxLen ≤ 9223372036854775807 := by decide
                                                  omega
  refine Ev.rounds ?_
  unfold laws_FnExactShares.f
  by_cases hl : 1048576 < l.length
  · exact Ev_all_k fun k => by rw [if_pos (by omega)]
  · have hm : l.length ≤ 1048576 := by omega
    have ho := sharesR_length t l
    have hS := shares_s t l
    have hI := shares_i t l
    generalize sharesR t l = o at *
    have hb : (o.2 != o.2) = false := by simp
    refine Ev.congr (fun k => by rw [if_neg (by omega)]) ?_
    refine Ev_bind (to_Int l hm) (Ev_bind hS (Ev_bind (to_Int l hm) (Ev_bind hI (Ev_bind (eq_Int o.1 (by omega)) ?_))))
    refine Ev.congr (fun k => by rw [if_pos rfl, hb]) ?_
    refine Ev.step (fun k => by simp only [laws_FnExactShares.j0]; rw [if_neg (by decide)]) ?_
    refine Ev_bind (to_Int l hm) (Ev_bind (eq_Int l hm1) ?_)
    refine Ev.congr (fun k => if_pos rfl) ?_
    refine Ev_bind (mark_Int l 1 (by decide) (by decide) (by omega)) ?_
    refine Ev.congr (fun k => if_neg (by show ¬ ((1 : Int) + (l.length : Int) < 0); omega)) ?_
    refine Ev_bind (eq_Int o.1 (by omega)) ?_
    refine Ev.congr (fun k => by rw [if_pos rfl, hb]) ?_
    refine Ev.step (fun k => by simp only [laws_FnExactShares.j1]; rw [if_neg (by decide)]) ?_
    refine Ev_bind (mark_Int o.1 1 (by decide) (by decide) (by omega)) (Ev_bind (held_Int _ 1 (by decide) (by decide) (by omega)) ?_)
    refine Ev.congr (fun k => (if_neg (by omega)).trans (if_pos rfl)) ?_
    refine Ev_bind (to_Int l hm) (Ev_bind hI (Ev_bind (eq_Int o.1 (by omega)) ?_))
    refine Ev.congr (fun k => by rw [if_pos rfl, hb]) ?_
    refine Ev.step (fun k => by simp only [laws_FnExactShares.j2]; rw [if_neg (by decide)]) ?_
    refine Ev_bind (held_Int _ 1 (by decide) (by decide) (by omega)) ?_
    exact Ev_all_k fun k => by rw [if_neg (by omega), if_pos rfl]
end Go.Proofs.Ytpnejhelandclaa.Pure
namespace Go.Proofs.YtpnejhelandclaaW.PrintWords
open Go.ChangeShapes Go.WideShapes
theorem sized_ints {H : Type} {enc : TypeId × Value → H} {P : Program} {W : World} {base : Nat} {spare : Nat → Bool} {held : Bool} {t e : TypeId} {k : IntKind} {a : Option Addr} {len cap : Nat} {d : DataW H} {ps : List MemPlace} {ts : List TypeId} {ds : List (DataW H)} {j : Nat}
    (hsz : (DataW.weightsEach P ts ds).all (· ≤ reachBytes) = true) (ht : ts[j]? = some t) (hd : ds[j]? = some d) (hu : P.underlying t = some (.slice e)) (he : P.underlying e = some (.int k)) (hc : P.cellsOf e = 1) {B : Nat} (hB : P.bytesOf e = B)
    (h : DataW.Trod enc P W base spare held t (.slice a len cap) d ps) : len * B ≤ 140737488351232 := by
  obtain ⟨fuel, hf⟩ := h
  rcases open_ints hu he hc hf with ⟨hcs, _⟩ | ⟨x, l, c, zs, hcs, _, hl, _, hz, hx, _, _⟩
  · simp [Value.cells] at hcs
    obtain ⟨rfl, rfl, rfl⟩ := hcs
    simp
  · simp [Value.cells] at hcs
    obtain ⟨rfl, rfl, rfl⟩ := hcs
    obtain ⟨hx, _⟩ := Prod.mk.inj hx
    subst hx
    have z := sized_slice hsz ht hd hu
    rw [hB] at z
    have hl2 : len ≤ zs.length := by
      rw [hz]
      split
      · exact hl
      · exact Nat.le_refl _
    have h1 : (lits (H := H) k (zs.take len)).length + (lits (H := H) k (zs.drop len)).length = zs.length := by
      simp [lits]
      omega
    rw [h1] at z
    exact Nat.le_trans (Nat.mul_le_mul_right _ hl2) z
end Go.Proofs.YtpnejhelandclaaW.PrintWords
namespace Go.Proofs.Ytpnejhelandclaa.fnExactShares
open Go.ChangeShapes Go.WideShapes Go.ChangeAt Go.RowKit
open Go.ChangeMaps (open_string shut_string)
set_option linter.unusedVariables false
theorem own : ownKnob Try.prog.godebug = none := by kernel_rfl
theorem laidOut : laidOutB Try.prog = true := by kernel_rfl
def IsRow (k : IntKind) (w : World) (a : Option Addr) (len cap : Nat) (zs : List Int) : Prop :=
  (a = none ∧ len = 0 ∧ cap = 0 ∧ zs = []) ∨
  ∃ x, a = some x ∧ len ≤ cap ∧ cap ≤ maxLen ∧ zs.length = cap ∧ (∀ i, i < zs.length → w.cell? (x.add i) = some (.int k (zs.getD i 0))) ∧ ∀ n ∈ zs, (Lit.int k n).wf = true
set_option maxRecDepth 100000 in
theorem lifted (os : Os) (started : os.Started) (H : Type) (enc : TypeId × Value → H) :
    ReturnsInHanded {} Try.checked os 6 .any (Rows.fnExactSharesSpec.pre6 enc Try.prog Try.f6 Rows.fnExactSharesRow.domain false) (Rows.fnExactSharesSpec.post enc Try.prog Try.f6 false true false false) := by
  refine returnsInHanded_of_change_sized (C := Try.checked) own started (by kernel_rfl) Try.func6
    (ChangeSpec.witness6 (enc := enc) (C := Try.checked) false ⟨#[], #[.int .i64 0, .slice none 0 0], []⟩ 8 (by kernel_rfl) (by kernel_rfl) (by kernel_rfl) (by kernel_rfl)) ?_
  intro W base args ds gs before hval0 hW hcnd hsz0 _
  have hsz : (DataW.weightsEach Try.prog (Try.f6.params.toList ++ Rows.fnExactSharesSpec.plain.varTypes Try.prog) (ds ++ gs)).all (· ≤ reachBytes) = true := hsz0
  have hval : ∀ (j : Nat) t v, Try.f6.params[j]? = some t → args[j]? = some v → Value.okWide Try.prog W .any base t v := hval0
  have hW' := hW
  obtain ⟨p, q, hA0, hV, rfl, hfz, hnd⟩ := hW
  have hA : DataW.TrodAll enc Try.prog W 0 (fun _ => true) true Try.f6.params.toList args.toList ds p := hA0
  rw [Try.params6] at hA hval hsz
  obtain ⟨v0, vs0, d0, ds0, p0, q0, hargs, rfl, rfl, h0, r0⟩ := trodAll_cons hA
  obtain ⟨v1, vs1, d1, ds1, p1, q1, rfl, rfl, rfl, h1, r1⟩ := trodAll_cons r0
  obtain ⟨rfl, rfl, rfl⟩ := trodAll_nil r1
  obtain rfl : args = #[v0, v1] := by cases args; simp_all
  obtain ⟨rfl, rfl⟩ := trodVars_none hV
  obtain ⟨a0, rfl, rfl, rfl, w0⟩ := open_int Try.underlying3 (hval 0 3 v0 rfl rfl) h0
  obtain ⟨a1, len1, cap1, rfl⟩ := okWide_slice Try.underlying22 (hval 1 22 v1 rfl rfl)
  have k1 := h1
  have lt1 : ∀ x ∈ p1, x.block < W.heap.size := by obtain ⟨m, hm⟩ := k1; exact DataW.trod_lt m _ _ _ hm
  obtain ⟨z1, w1⟩ : ∃ zs, IsRow .i64 W a1 len1 cap1 zs := by
    obtain ⟨fuel, hf⟩ := h1
    rcases open_ints Try.underlying22 Try.underlying3 (by kernel_rfl) hf with ⟨hcs, _⟩ | ⟨x, l, c, zs, hcs, _, hl, hm, hz, _, hcell, hwz⟩
    · simp [Value.cells] at hcs
      obtain ⟨rfl, rfl, rfl⟩ := hcs
      exact ⟨[], .inl ⟨rfl, rfl, rfl, rfl⟩⟩
    · simp [Value.cells] at hcs
      obtain ⟨rfl, rfl, rfl⟩ := hcs
      exact ⟨zs, .inr ⟨_, rfl, hl, hm, by simpa using hz, hcell, hwz⟩⟩
  have y1 : len1 * 8 ≤ 140737488351232 := Go.Proofs.YtpnejhelandclaaW.PrintWords.sized_ints hsz (j := 1) (t := 22) rfl rfl Try.underlying22 Try.underlying3 (by kernel_rfl) (by kernel_rfl) h1
  clear hA0 hval0 hsz0 hsz
  refine (P.laws_FnExactShares.walk Pure.FnExactShares a0 a1 len1 cap1 z1 W w0 w1 y1).mono fun e W' ⟨he, bel⟩ => ?_
  subst he
  exact ⟨_, rfl, _, _, _, [], _, [], hW', trodAll_mk1 (shut_bool Try.underlying4 _), (trodAll_cons_mk (shut_int Try.underlying3 w0) (trodAll_cons_mk (Below.trod laidOut (by kernel_rfl) (of_decide_eq_true (by kernel_rfl)) k1 bel lt1) trodAll_mk0)), rfl, bel.frame _, fun h => by cases h⟩
theorem over : Rows.fnExactSharesRow.holds Try.pinned (OpenSpec.ofChange Rows.fnExactSharesSpec) :=
  OpenClaim.holds_of_wide 6 Try.f6 rfl rfl rfl rfl rfl rfl rfl ⟨rfl, rfl, rfl, rfl, rfl⟩ rfl rfl rfl rfl rfl (by kernel_rfl) Try.func6 (by kernel_rfl)
    (of_decide_eq_true (by kernel_rfl)) (by unfold Func.isWrapper; first | (rw [if_pos (by decide +kernel)]; kernel_rfl) | (rw [if_neg (by decide +kernel)]; exact ⟨rfl, rfl⟩))
    (fun os started H enc _ => lifted os started H enc)
theorem proved : Rows.FnExactSharesSaid := over
#print axioms proved
end Go.Proofs.Ytpnejhelandclaa.fnExactShares
namespace Go.Proofs.Ytpnejhelandclaa
theorem fnExactShares_holds : Rows.FnExactSharesSaid := fnExactShares.proved
end Go.Proofs.Ytpnejhelandclaa
