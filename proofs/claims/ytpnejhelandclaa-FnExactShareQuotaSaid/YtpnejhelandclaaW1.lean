/- When weights are right: the program's answer and the reference's, in closed form; their sums. -/
import Derived.Test.YtpnejhelandclaaPx0
import Derived.Test.YtpnejhelandclaaPx1
import Derived.Test.YtpnejhelandclaaEV
import Derived.Test.YtpnejhelandclaaI1
import Derived.Test.YtpnejhelandclaaTI
namespace Go.Proofs.Ytpnejhelandclaa.W1
open Go Go.RowKit Go.Proofs.Ytpnejhelandclaa.P Go.Proofs.YtpnejhelandclaaW.PrintWords Go.Proofs.YtpnejhelandclaaW.PrintLast Go.Proofs.Ytpnejhelandclaa.EV Go.Proofs.Ytpnejhelandclaa.I1 Go.Proofs.Ytpnejhelandclaa.TI
theorem some_s1 (a least : Int) : spec_l1Some.f a least = some (decide (least ≤ a ∧ a ≤ 1000000000000000)) := by unfold spec_l1Some.f; rw [in_s]; rfl
/-- Few, and each within bounds. -/
def Few (l : List Int) : Prop := l.length ≤ 40 ∧ ∀ x ∈ l, 0 ≤ x ∧ x ≤ 1000000000000000
theorem Few.at {l : List Int} (h : Few l) (i : Nat) (hi : i < l.length) : 0 ≤ l.getD i 0 ∧ l.getD i 0 ≤ 1000000000000000 := by
  have : l.getD i 0 = l[i] := by rw [List.getD_eq_getElem?_getD, List.getElem?_eq_getElem hi]; rfl
  rw [this]
  exact h.2 _ (List.getElem_mem hi)
theorem sum_bound (l : List Int) (h : ∀ x ∈ l, 0 ≤ x ∧ x ≤ 1000000000000000) : 0 ≤ l.sum ∧ l.sum ≤ 1000000000000000 * l.length := by
  induction l with
  | nil => simp
  | cons x l ih =>
    have h1 := ih fun y hy => h y (List.mem_cons_of_mem _ hy)
    have h2 := h x (List.mem_cons_self ..)
    rw [List.sum_cons, List.length_cons]
    omega
theorem drop_bound {l : List Int} (h : Few l) (i : Nat) : 0 ≤ (l.drop i).sum ∧ (l.drop i).sum ≤ 40000000000000000 := by
  have h1 := sum_bound (l.drop i) fun x hx => h.2 x (List.mem_of_mem_drop hx)
  rw [List.length_drop] at h1
  have := h.1
  omega
theorem take_bound {l : List Int} (h : Few l) (i : Nat) : 0 ≤ (l.take i).sum ∧ (l.take i).sum ≤ 40000000000000000 := by
  have h1 := sum_bound (l.take i) fun x hx => h.2 x (List.mem_of_mem_take hx)
  rw [List.length_take] at h1
  have := h.1
  omega
theorem drop_sum (l : List Int) (i : Nat) (hi : i < l.length) : (l.drop i).sum = l.getD i 0 + (l.drop (i + 1)).sum := by rw [drop_getD 0 l i hi, List.sum_cons]

theorem all_s {l : List Int} (h : Few l) : Ev (fun k => spec_l2All.f k l) l.sum := by
  unfold spec_l2All.f
  have h2 := h.1
  have h' := Ev_goes (fun k s i => spec_l2All.l0 k l s i) l.length (fun i s => s + (l.drop i).sum) (fun i s => 0 ≤ s ∧ s + (l.drop i).sum = l.sum)
    (fun s hs => Ev_one fun k => by
      simp only [spec_l2All.l0]
      rw [if_neg (by omega), List.drop_length, List.sum_nil, Int.add_zero])
    (fun i s hi hs => .inr ⟨s + l.getD i 0, by
        have h3 := h.at i hi
        have h4 := drop_sum l i hi
        omega, by rw [drop_sum l i hi]; omega, fun k => by
        show spec_l2All.l0 (k + 1) l s (i : Int) = _
        simp only [spec_l2All.l0]
        have h3 := h.at i hi
        have h4 := drop_sum l i hi
        have h5 := drop_bound h (i + 1)
        have h6 := drop_bound h 0
        rw [List.drop_zero] at h6
        rw [if_pos (by omega), if_pos (by omega), w_succ hi (by omega), rdi, w64_in _ (by omega) (by omega)]⟩) l.length 0 0 (by omega) (by omega) (by rw [List.drop_zero]; omega)
  rw [List.drop_zero, Int.zero_add] at h'
  exact h'
theorem all_i {l : List Int} (h : Few l) : Ev (fun k => impl_sumOf.f k l) l.sum := by
  unfold impl_sumOf.f
  have h2 := h.1
  have h' := Ev_goes (fun k s i => impl_sumOf.l0 k s l (l.length : Int) i) l.length (fun i s => s + (l.drop i).sum) (fun i s => 0 ≤ s ∧ s + (l.drop i).sum = l.sum)
    (fun s hs => Ev_one fun k => by
      simp only [impl_sumOf.l0]
      rw [if_neg (by omega), List.drop_length, List.sum_nil, Int.add_zero])
    (fun i s hi hs => .inr ⟨s + l.getD i 0, by
        have h3 := h.at i hi
        have h4 := drop_sum l i hi
        omega, by rw [drop_sum l i hi]; omega, fun k => by
        show impl_sumOf.l0 (k + 1) s l (l.length : Int) (i : Int) = _
        simp only [impl_sumOf.l0]
        have h3 := h.at i hi
        have h4 := drop_sum l i hi
        have h5 := drop_bound h (i + 1)
        have h6 := drop_bound h 0
        rw [List.drop_zero] at h6
        rw [if_pos (by omega), if_pos (by omega), if_pos (by omega), w_succ hi (by omega), rdi, w64_in _ (by omega) (by omega)]⟩) l.length 0 0 (by omega) (by omega) (by rw [List.drop_zero]; omega)
  rw [List.drop_zero, Int.zero_add] at h'
  exact h'
/-- Weights that are right. -/
def OkW (l : List Int) : Prop := (1 ≤ (l.length : Int) ∧ (l.length : Int) ≤ 40 ∧ (∀ x ∈ l, 0 ≤ x ∧ x ≤ 1000000000000000)) ∧ 1 ≤ l.sum ∧ l.sum ≤ 1000000000000000
noncomputable def okW (l : List Int) : Bool := @decide (OkW l) (Classical.propDecidable _)
theorem okW_iff (l : List Int) : okW l = true ↔ OkW l := by unfold okW; exact @decide_eq_true_iff _ (Classical.propDecidable _)
theorem OkW.few {l : List Int} (h : OkW l) : Few l := ⟨by have := h.1.2.1; omega, h.1.2.2⟩
theorem okW_no {l : List Int} (h : ¬ OkW l) : okW l = false := by rw [Bool.eq_false_iff, Ne, okW_iff]; exact h
theorem okW_sum {l : List Int} (h : 1 ≤ (l.length : Int) ∧ (l.length : Int) ≤ 40 ∧ (∀ x ∈ l, 0 ≤ x ∧ x ≤ 1000000000000000)) : decide (1 ≤ l.sum ∧ l.sum ≤ 1000000000000000) = okW l := by
  rw [Bool.eq_iff_iff, okW_iff, decide_eq_true_iff]
  exact ⟨fun g => ⟨h, g⟩, fun g => g.2⟩

theorem weightsOk_i (l : List Int) : Ev (fun k => impl_WeightsOk.f k l) (okW l) := by
  unfold impl_WeightsOk.f
  by_cases h : 1 ≤ (l.length : Int) ∧ (l.length : Int) ≤ 40 ∧ (∀ x ∈ l, 0 ≤ x ∧ x ≤ 1000000000000000)
  · refine Ev.congr (fun k => by rw [if_pos h]) (Ev_bind (all_i ⟨by omega, h.2.2⟩) (Ev_all_k fun k => ?_))
    rw [okW_sum h]
  · rw [okW_no fun g => h g.1]
    exact Ev_all_k fun k => by rw [if_neg h]
theorem weightsOk_s (l : List Int) : Ev (fun k => spec_WeightsOk.f k l) (okW l) := by
  unfold spec_WeightsOk.f
  by_cases hn : 1 ≤ (l.length : Int) ∧ (l.length : Int) ≤ 40
  · refine Ev.congr (f := fun k => spec_WeightsOk.l0 k l 0) (fun k => by rw [in_s, decide_eq_true hn, Option.bind_some, if_pos rfl]) ?_
    by_cases hall : ∀ x ∈ l, 0 ≤ x ∧ x ≤ 1000000000000000
    · obtain ⟨r, hr, hiff⟩ := Ev_asks (fun k i => spec_WeightsOk.l0 k l i) l.length (fun j => 0 ≤ l.getD j 0 ∧ l.getD j 0 ≤ 1000000000000000) (okW l)
        (Ev.step (f := fun k => (spec_l2All.f k l).bind fun t106 => ((spec_l1Some.f t106 1).bind fun t107 => (some t107))) (fun k => by simp only [spec_WeightsOk.l0]; rw [if_neg (by omega)])
          (Ev_bind (all_s ⟨by omega, hall⟩) (Ev_all_k fun k => by rw [some_s1, Option.bind_some, okW_sum ⟨hn.1, hn.2, hall⟩])))
        (fun i hi => .inl ⟨Few.at ⟨by omega, hall⟩ i hi, fun k => by
          show spec_WeightsOk.l0 (k + 1) l (i : Int) = _
          simp only [spec_WeightsOk.l0]
          rw [if_pos (by omega), if_pos (by omega), w_succ hi (by omega), rdi, some_s1, Option.bind_some, decide_eq_true (Few.at ⟨by omega, hall⟩ i hi), if_pos rfl]⟩) l.length 0 (by omega) (by omega)
      have : r = okW l := by
        rw [Bool.eq_iff_iff, hiff]
        exact ⟨fun g => g.2, fun g => ⟨fun j _ hj => Few.at ⟨by omega, hall⟩ j hj, g⟩⟩
      exact this ▸ hr
    · rw [okW_no fun g => hall g.1.2.2]
      -- the first that is out of bounds
      have hbad : ∃ j, j < l.length ∧ ¬ (0 ≤ l.getD j 0 ∧ l.getD j 0 ≤ 1000000000000000) := by
        apply Classical.byContradiction
        intro hno
        apply hall
        intro x hx
        obtain ⟨j, hj, rfl⟩ := List.getElem_of_mem hx
        have e : l.getD j 0 = l[j] := by rw [List.getD_eq_getElem?_getD, List.getElem?_eq_getElem hj]; rfl
        apply Classical.byContradiction
        intro hq
        exact hno ⟨j, hj, by rw [e]; exact hq⟩
      obtain ⟨j, hj, hb⟩ := hbad
      have key : ∀ (d i : Nat), j - i = d → i ≤ j → Ev (fun k => spec_WeightsOk.l0 k l (i : Int)) false := by
        intro d
        induction d with
        | zero =>
          intro i hd hi
          obtain rfl : i = j := by omega
          exact Ev_one fun k => by
            simp only [spec_WeightsOk.l0]
            rw [if_pos (by omega), if_pos (by omega), rdi, some_s1, Option.bind_some, decide_eq_false hb, if_neg (by decide)]
        | succ d ih =>
          intro i hd hi
          by_cases hg : 0 ≤ l.getD i 0 ∧ l.getD i 0 ≤ 1000000000000000
          · refine Ev.step (f := fun k => spec_WeightsOk.l0 k l ((i + 1 : Nat) : Int)) (fun k => ?_) (ih (i + 1) (by omega) (by omega))
            simp only [spec_WeightsOk.l0]
            rw [if_pos (by omega), if_pos (by omega), w_succ (by omega : i < l.length) (by omega), rdi, some_s1, Option.bind_some, decide_eq_true hg, if_pos rfl]
          · exact Ev_one fun k => by
              simp only [spec_WeightsOk.l0]
              rw [if_pos (by omega), if_pos (by omega), rdi, some_s1, Option.bind_some, decide_eq_false hg, if_neg (by decide)]
      exact key j 0 (by omega) (by omega)
  · rw [okW_no fun g => hn ⟨g.1.1, g.1.2.1⟩]
    exact Ev_all_k fun k => by rw [in_s, decide_eq_false hn, Option.bind_some, if_neg (by decide)]
end Go.Proofs.Ytpnejhelandclaa.W1
