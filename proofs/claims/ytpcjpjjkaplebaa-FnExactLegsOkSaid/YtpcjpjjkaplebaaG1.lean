/- When legs are right, and when they are even: the program's answer and the reference's, in closed form. -/
import Derived.Test.YtpcjpjjkaplebaaPx0
import Derived.Test.YtpcjpjjkaplebaaPx4
import Derived.Test.YtpcjpjjkaplebaaPx5
import Derived.Test.YtpcjpjjkaplebaaEV
import Derived.Test.YtpcjpjjkaplebaaI1
import Derived.Test.YtpcjpjjkaplebaaN1
namespace Go.Proofs.Ytpcjpjjkaplebaa.G1
open Go Go.RowKit Go.Proofs.Ytpcjpjjkaplebaa.P Go.Proofs.YtpcjpjjkaplebaaW.PrintWords Go.Proofs.YtpcjpjjkaplebaaW.PrintLast Go.Proofs.Ytpcjpjjkaplebaa.EV Go.Proofs.Ytpcjpjjkaplebaa.I1 Go.Proofs.Ytpcjpjjkaplebaa.N1
abbrev SL := S61
theorem rdL (l : List SL) (i : Nat) : rd_T61 l (i : Int) = l.getD i z61 := by unfold rd_T61; rw [Int.toNat_natCast]
def GoodL (x : SL) : Prop := No x.f0 ∧ No x.f1 ∧ Amt x.f2
instance (x : SL) : Decidable (GoodL x) := by unfold GoodL; exact inferInstance
def RightL (l : List SL) : Prop := l.length ≤ 160 ∧ ∀ x ∈ l, GoodL x
noncomputable def rightL (l : List SL) : Bool := @decide (RightL l) (Classical.propDecidable _)
theorem rightL_iff (l : List SL) : rightL l = true ↔ RightL l := by unfold rightL; exact @decide_eq_true_iff _ (Classical.propDecidable _)
theorem rightL_no {l : List SL} (h : ¬ RightL l) : rightL l = false := by rw [Bool.eq_false_iff, Ne, rightL_iff]; exact h
theorem RightL.at {l : List SL} (h : RightL l) (i : Nat) (hi : i < l.length) : GoodL (l.getD i z61) := by
  have : l.getD i z61 = l[i] := by rw [List.getD_eq_getElem?_getD, List.getElem?_eq_getElem hi]; rfl
  rw [this]
  exact h.2 _ (List.getElem_mem hi)
theorem right_s (l : List SL) : Ev (fun k => spec_l4LegsRight.f k l) (rightL l) := by
  unfold spec_l4LegsRight.f
  by_cases hn : (l.length : Int) > 160
  · rw [rightL_no fun h => by have := h.1; omega]
    exact Ev_all_k fun k => by rw [if_pos hn]
  · obtain ⟨r, hr, hiff⟩ := Ev_asks (fun k i => spec_l4LegsRight.l0 k l i) l.length (fun j => GoodL (l.getD j z61)) true
      (Ev_one fun k => by simp only [spec_l4LegsRight.l0]; rw [if_neg (by omega)])
      (fun i hi => by
        have e : ∀ k, spec_l4LegsRight.l0 (k + 1) l (i : Int) = if No (l.getD i z61).f0 then (if No (l.getD i z61).f1 then (if Amt (l.getD i z61).f2 then spec_l4LegsRight.l0 k l ((i + 1 : Nat) : Int) else some false) else some false) else some false := by
          intro k
          simp only [spec_l4LegsRight.l0]
          rw [if_pos (by omega), if_pos (by omega), w_succ hi (by omega)]
          simp only [no_s, amt_s, Option.bind_some, decide_eq_true_iff, rdL]
        by_cases hg : GoodL (l.getD i z61)
        · refine .inl ⟨hg, fun k => ?_⟩
          show spec_l4LegsRight.l0 (k + 1) l (i : Int) = _
          rw [e k, if_pos hg.1, if_pos hg.2.1, if_pos hg.2.2]
        · refine .inr ⟨hg, fun k => ?_⟩
          show spec_l4LegsRight.l0 (k + 1) l (i : Int) = _
          rw [e k]
          unfold GoodL at hg
          split
          · rename_i h1
            split
            · rename_i h2
              split
              · rename_i h3
                exact absurd ⟨h1, h2, h3⟩ hg
              · rfl
            · rfl
          · rfl) l.length 0 (by omega) (by omega)
    have hq : r = rightL l := by
      rw [Bool.eq_iff_iff, hiff, rightL_iff]
      refine ⟨fun h => ⟨by omega, fun x hx => ?_⟩, fun h => ⟨fun j _ hj => h.at j hj, rfl⟩⟩
      obtain ⟨j, hj, rfl⟩ := List.getElem_of_mem hx
      have := h.1 j (Nat.zero_le _) hj
      rw [List.getD_eq_getElem?_getD, List.getElem?_eq_getElem hj] at this
      exact this
    subst hq
    exact Ev.congr (fun k => by rw [if_neg hn]; rfl) hr
theorem right_i (l : List SL) : impl_legsForm.f l = some (rightL l) := by
  unfold impl_legsForm.f
  congr 1
  rw [Bool.eq_iff_iff, rightL_iff, Bool.and_eq_true, decide_eq_true_iff, Bool.not_eq_true', List.any_eq_false]
  unfold RightL
  have e : ∀ x : SL, (¬ impl_legsForm.bad x = true) ↔ GoodL x := fun x => by
    unfold impl_legsForm.bad GoodL No Amt
    rw [Bool.not_eq_true', Bool.not_eq_false, decide_eq_true_iff]
  constructor
  · rintro ⟨h1, h2⟩
    exact ⟨by omega, fun x hx => (e x).1 (h2 x hx)⟩
  · rintro ⟨h1, h2⟩
    exact ⟨by omega, fun x hx => (e x).2 (h2 x hx)⟩

/-- All amounts of an instrument together. -/
def sumL (a : Int) : List SL → Int
  | [] => 0
  | x :: l => (if x.f1 = a then x.f2 else 0) + sumL a l
theorem sumL_drop (a : Int) (l : List SL) (i : Nat) (hi : i < l.length) : sumL a (l.drop i) = (if (l.getD i z61).f1 = a then (l.getD i z61).f2 else 0) + sumL a (l.drop (i + 1)) := by
  rw [drop_getD z61 l i hi]; rfl
theorem sumL_bound {l : List SL} (h : RightL l) (a : Int) : ∀ (d i : Nat), l.length - i = d → i ≤ l.length → -(1000000000000000 * (l.length - i : Int)) ≤ sumL a (l.drop i) ∧ sumL a (l.drop i) ≤ 1000000000000000 * (l.length - i : Int) := by
  intro d
  induction d with
  | zero =>
    intro i hd hi
    obtain rfl : i = l.length := by omega
    rw [List.drop_length]
    unfold sumL
    omega
  | succ d ih =>
    intro i hd hi
    rw [sumL_drop a l i (by omega)]
    have := ih (i + 1) (by omega) (by omega)
    have g : Amt _ := (h.at i (by omega)).2.2
    unfold Amt at g
    split <;> omega
def EvenL (l : List SL) : Prop := ∀ j, j < l.length → sumL (l.getD j z61).f1 l = 0
def OkL (l : List SL) : Prop := RightL l ∧ EvenL l
noncomputable def okL (l : List SL) : Bool := @decide (OkL l) (Classical.propDecidable _)
theorem okL_iff (l : List SL) : okL l = true ↔ OkL l := by unfold okL; exact @decide_eq_true_iff _ (Classical.propDecidable _)
theorem okL_no {l : List SL} (h : ¬ OkL l) : okL l = false := by rw [Bool.eq_false_iff, Ne, okL_iff]; exact h

theorem legsOk_s (l : List SL) : Ev (fun k => spec_LegsOk.f k l) (okL l) := by
  unfold spec_LegsOk.f
  refine Ev_bind (right_s l) ?_
  by_cases h : RightL l
  · have h1 := h.1
    have hb := fun a i hi => sumL_bound h a (l.length - i) i rfl hi
    obtain ⟨r, hr, hiff⟩ := Ev_asks' (fun k i => spec_LegsOk.l0 k l i) l.length (fun j => sumL (l.getD j z61).f1 l = 0) true
      (Ev_one fun k => by simp only [spec_LegsOk.l0]; rw [if_neg (by omega)])
      (fun i hi => by
        have key : ∀ q, Ev (fun k => if sumL (l.getD i z61).f1 l = 0 then spec_LegsOk.l0 k l ((i + 1 : Nat) : Int) else some false) q → Ev (fun k => spec_LegsOk.l0 k l (i : Int)) q := fun q hq => by
          refine Ev.step (f := fun k => spec_LegsOk.l1 k l (i : Int) 0 0) (fun k => by simp only [spec_LegsOk.l0]; rw [if_pos (by omega)]) ?_
          refine (Ev_goes' (fun k s j => spec_LegsOk.l1 k l (i : Int) s j) l.length (fun _ _ => q) (fun j s => s + sumL (l.getD i z61).f1 (l.drop j) = sumL (l.getD i z61).f1 l)
            (fun s hs => by
              rw [List.drop_length] at hs
              have hs2 : s = sumL (l.getD i z61).f1 l := by rw [← hs]; show s = s + 0; omega
              refine Ev.step (fun k => ?_) hq
              show spec_LegsOk.l1 (k + 1) l (i : Int) s (l.length : Int) = _
              simp only [spec_LegsOk.l1]
              rw [if_neg (by omega), w_succ hi (by omega), hs2])
            (fun j s hj hs => by
              have e := sumL_drop (l.getD i z61).f1 l j hj
              have b0 := hb (l.getD i z61).f1 0 (by omega)
              have b1 := hb (l.getD i z61).f1 (j + 1) (by omega)
              rw [List.drop_zero] at b0
              refine .inr ⟨s + (if (l.getD j z61).f1 = (l.getD i z61).f1 then (l.getD j z61).f2 else 0), by omega, rfl, fun r hr => Ev.step (fun k => ?_) hr⟩
              show spec_LegsOk.l1 (k + 1) l (i : Int) s (j : Int) = _
              simp only [spec_LegsOk.l1, rdL]
              rw [if_pos (by omega), if_pos (by omega), if_pos (by omega), if_pos (by omega), w_succ hj (by omega)]
              by_cases h2 : (l.getD j z61).f1 = (l.getD i z61).f1
              · rw [if_pos h2] at e
                rw [if_pos h2, if_pos h2, w64_in _ (by omega) (by omega)]
              · rw [if_neg h2, if_neg h2, Int.add_zero]) l.length 0 0 (by omega) (by omega) (by rw [List.drop_zero]; omega) : Ev (fun k => spec_LegsOk.l1 k l (i : Int) 0 ((0 : Nat) : Int)) q)
        by_cases hg : sumL (l.getD i z61).f1 l = 0
        · exact .inl ⟨hg, fun r hr => key r (Ev.congr (fun k => by rw [if_pos hg]) hr)⟩
        · exact .inr ⟨hg, key false (Ev_all_k fun k => by rw [if_neg hg])⟩) l.length 0 (by omega) (by omega)
    have hq : r = okL l := by
      rw [Bool.eq_iff_iff, hiff, okL_iff]
      exact ⟨fun g => ⟨h, fun j hj => g.1 j (Nat.zero_le _) hj⟩, fun g => ⟨fun j _ hj => g.2 j hj, rfl⟩⟩
    subst hq
    exact Ev.congr (fun k => by rw [if_pos ((rightL_iff l).2 h)]; rfl) hr
  · rw [okL_no fun g => h g.1]
    exact Ev_all_k fun k => by rw [if_neg (by rw [rightL_no h]; decide)]
theorem legsOk_i (l : List SL) : Ev (fun k => impl_LegsOk.f k l) (okL l) := by
  unfold impl_LegsOk.f
  by_cases h : RightL l
  · have h1 := h.1
    have hb := fun a i hi => sumL_bound h a (l.length - i) i rfl hi
    obtain ⟨r, hr, hiff⟩ := Ev_asks' (fun k i => impl_LegsOk.l0 k l l (l.length : Int) i) l.length (fun j => sumL (l.getD j z61).f1 l = 0) true
      (Ev_one fun k => by simp only [impl_LegsOk.l0]; rw [if_neg (by omega)])
      (fun i hi => by
        have key : ∀ q, Ev (fun k => if sumL (l.getD i z61).f1 l = 0 then impl_LegsOk.l0 k l l (l.length : Int) ((i + 1 : Nat) : Int) else some false) q → Ev (fun k => impl_LegsOk.l0 k l l (l.length : Int) (i : Int)) q := fun q hq => by
          refine Ev.step (f := fun k => impl_LegsOk.l1 k l 0 l (l.length : Int) (i : Int) l (l.length : Int) 0 (l.getD i z61).f0 (l.getD i z61).f1 (l.getD i z61).f2) (fun k => by simp only [impl_LegsOk.l0, rdL]; rw [if_pos (by omega), if_pos (by omega), if_pos (by omega)]) ?_
          refine (Ev_goes' (fun k s j => impl_LegsOk.l1 k l s l (l.length : Int) (i : Int) l (l.length : Int) j (l.getD i z61).f0 (l.getD i z61).f1 (l.getD i z61).f2) l.length (fun _ _ => q) (fun j s => s + sumL (l.getD i z61).f1 (l.drop j) = sumL (l.getD i z61).f1 l)
            (fun s hs => by
              rw [List.drop_length] at hs
              have hs2 : s = sumL (l.getD i z61).f1 l := by rw [← hs]; show s = s + 0; omega
              refine Ev.step (fun k => ?_) hq
              show impl_LegsOk.l1 (k + 1) l s l (l.length : Int) (i : Int) l (l.length : Int) (l.length : Int) _ _ _ = _
              simp only [impl_LegsOk.l1]
              rw [if_neg (by omega), w_succ hi (by omega), hs2])
            (fun j s hj hs => by
              have e := sumL_drop (l.getD i z61).f1 l j hj
              have b0 := hb (l.getD i z61).f1 0 (by omega)
              have b1 := hb (l.getD i z61).f1 (j + 1) (by omega)
              rw [List.drop_zero] at b0
              refine .inr ⟨s + (if (l.getD j z61).f1 = (l.getD i z61).f1 then (l.getD j z61).f2 else 0), by omega, rfl, fun r hr => Ev.step (fun k => ?_) hr⟩
              show impl_LegsOk.l1 (k + 1) l s l (l.length : Int) (i : Int) l (l.length : Int) (j : Int) _ _ _ = _
              simp only [impl_LegsOk.l1, rdL]
              rw [if_pos (by omega), if_pos (by omega), if_pos (by omega), w_succ hj (by omega)]
              by_cases h2 : (l.getD j z61).f1 = (l.getD i z61).f1
              · rw [if_pos h2] at e
                rw [if_pos h2, if_pos h2, w64_in _ (by omega) (by omega)]
              · rw [if_neg h2, if_neg h2, Int.add_zero]) l.length 0 0 (by omega) (by omega) (by rw [List.drop_zero]; omega) : Ev (fun k => impl_LegsOk.l1 k l 0 l (l.length : Int) (i : Int) l (l.length : Int) ((0 : Nat) : Int) (l.getD i z61).f0 (l.getD i z61).f1 (l.getD i z61).f2) q)
        by_cases hg : sumL (l.getD i z61).f1 l = 0
        · exact .inl ⟨hg, fun r hr => key r (Ev.congr (fun k => by rw [if_pos hg]) hr)⟩
        · exact .inr ⟨hg, key false (Ev_all_k fun k => by rw [if_neg hg])⟩) l.length 0 (by omega) (by omega)
    have hq : r = okL l := by
      rw [Bool.eq_iff_iff, hiff, okL_iff]
      exact ⟨fun g => ⟨h, fun j hj => g.1 j (Nat.zero_le _) hj⟩, fun g => ⟨fun j _ hj => g.2 j hj, rfl⟩⟩
    subst hq
    exact Ev.congr (fun k => by rw [right_i, Option.bind_some, if_pos ((rightL_iff l).2 h)]; rfl) hr
  · rw [okL_no fun g => h g.1]
    exact Ev_all_k fun k => by rw [right_i, Option.bind_some, if_neg (by rw [rightL_no h]; decide)]
end Go.Proofs.Ytpcjpjjkaplebaa.G1
