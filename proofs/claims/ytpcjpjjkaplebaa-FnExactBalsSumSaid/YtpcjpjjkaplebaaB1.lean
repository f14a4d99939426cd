/- When balances are right: the program's answer and the reference's, in closed form. -/
import Derived.Test.YtpcjpjjkaplebaaPx0
import Derived.Test.YtpcjpjjkaplebaaPx2
import Derived.Test.YtpcjpjjkaplebaaPx3
import Derived.Test.YtpcjpjjkaplebaaEV
import Derived.Test.YtpcjpjjkaplebaaI1
import Derived.Test.YtpcjpjjkaplebaaN1
namespace Go.Proofs.Ytpcjpjjkaplebaa.B1
open Go Go.RowKit Go.Proofs.Ytpcjpjjkaplebaa.P Go.Proofs.YtpcjpjjkaplebaaW.PrintWords Go.Proofs.YtpcjpjjkaplebaaW.PrintLast Go.Proofs.Ytpcjpjjkaplebaa.EV Go.Proofs.Ytpcjpjjkaplebaa.I1 Go.Proofs.Ytpcjpjjkaplebaa.N1
def Bef (a b c d : Int) : Prop := a < c ∨ (a = c ∧ b < d)
instance (a b c d : Int) : Decidable (Bef a b c d) := by unfold Bef; exact inferInstance
def cmp (a b c d : Int) : Int := if Bef a b c d then -1 else (if a = c ∧ b = d then 0 else 1)
theorem before_s (a b c d : Int) : spec_l4Before.f a b c d = some (decide (Bef a b c d)) := by
  unfold spec_l4Before.f
  by_cases h : a < c
  · rw [if_pos h, decide_eq_true (show Bef a b c d from .inl h)]
  · rw [if_neg h]
    by_cases h2 : a = c
    · rw [if_pos h2]
      congr 1
      rw [Bool.eq_iff_iff, decide_eq_true_iff, decide_eq_true_iff]
      exact ⟨fun g => .inr ⟨h2, g⟩, fun g => g.elim (fun g => absurd g h) (fun g => g.2)⟩
    · rw [if_neg h2, decide_eq_false (show ¬ Bef a b c d from fun g => g.elim h fun g => h2 g.1)]
theorem both_i (a b c d : Int) : Ev (fun k => impl_byBoth.f k a b c d) (cmp a b c d) := by
  unfold impl_byBoth.f
  have yes : Bef a b c d → Ev (fun k => impl_byBoth.j0 k a b c d true) (cmp a b c d) := fun h => Ev_one fun k => by
    simp only [impl_byBoth.j0]
    rw [if_pos trivial]
    unfold cmp
    rw [if_pos h]
  have no : ¬ Bef a b c d → Ev (fun k => impl_byBoth.j0 k a b c d false) (cmp a b c d) := fun h => Ev_one fun k => by
    simp only [impl_byBoth.j0]
    rw [if_neg (by decide)]
    unfold cmp
    rw [if_neg h]
    by_cases h1 : a = c
    · by_cases h2 : b = d
      · rw [if_pos h1, if_pos h2, if_pos ⟨h1, h2⟩]
      · rw [if_pos h1, if_neg h2, if_neg fun g => h2 g.2]
    · rw [if_neg h1, if_neg fun g => h1 g.1]
  by_cases h : a < c
  · exact Ev.congr (fun k => by rw [if_pos h]) (yes (.inl h))
  · by_cases h2 : a = c
    · by_cases h3 : b < d
      · exact Ev.congr (fun k => by rw [if_neg h, if_pos h2, decide_eq_true h3]) (yes (.inr ⟨h2, h3⟩))
      · exact Ev.congr (fun k => by rw [if_neg h, if_pos h2, decide_eq_false h3]) (no fun g => g.elim h fun g => h3 g.2)
    · exact Ev.congr (fun k => by rw [if_neg h, if_neg h2]) (no fun g => g.elim h fun g => h2 g.1)
theorem cmp_neg {a b c d : Int} : cmp a b c d ≥ 0 ↔ ¬ Bef a b c d := by
  unfold cmp
  by_cases h : Bef a b c d
  · rw [if_pos h]
    exact ⟨fun g => absurd g (by decide), fun g => absurd h g⟩
  · rw [if_neg h]
    refine ⟨fun _ => h, fun _ => ?_⟩
    split <;> decide
theorem cmp_zero {a b c d : Int} : cmp a b c d = 0 ↔ a = c ∧ b = d := by
  unfold cmp
  by_cases h : Bef a b c d
  · rw [if_pos h]
    refine ⟨fun g => absurd g (by decide), fun g => ?_⟩
    unfold Bef at h
    omega
  · rw [if_neg h]
    by_cases h2 : a = c ∧ b = d
    · rw [if_pos h2]; exact ⟨fun _ => h2, fun _ => rfl⟩
    · rw [if_neg h2]; exact ⟨fun g => absurd g (by decide), fun g => absurd g h2⟩

theorem rdB (l : List S58) (i : Nat) : rd_T58 l (i : Int) = l.getD i z58 := by unfold rd_T58; rw [Int.toNat_natCast]
/-- What the list's place j must hold. -/
def GoodB (l : List S58) (j : Nat) : Prop :=
  No (l.getD j z58).f0 ∧ No (l.getD j z58).f1 ∧ Amt (l.getD j z58).f2 ∧ (l.getD j z58).f2 ≠ 0 ∧ (0 < j → Bef (l.getD (j - 1) z58).f0 (l.getD (j - 1) z58).f1 (l.getD j z58).f0 (l.getD j z58).f1)
def OkB (l : List S58) : Prop := l.length ≤ 160 ∧ ∀ j, j < l.length → GoodB l j
noncomputable def okB (l : List S58) : Bool := @decide (OkB l) (Classical.propDecidable _)
theorem okB_iff (l : List S58) : okB l = true ↔ OkB l := by unfold okB; exact @decide_eq_true_iff _ (Classical.propDecidable _)
theorem okB_no {l : List S58} (h : ¬ OkB l) : okB l = false := by rw [Bool.eq_false_iff, Ne, okB_iff]; exact h

theorem balsOk_s (l : List S58) : Ev (fun k => spec_BalsOk.f k l) (okB l) := by
  unfold spec_BalsOk.f
  by_cases hn : (l.length : Int) > 160
  · rw [okB_no fun h => by have := h.1; omega]
    exact Ev_all_k fun k => by rw [if_pos hn]
  · obtain ⟨r, hr, hiff⟩ := Ev_asks (fun k i => spec_BalsOk.l0 k l i) l.length (GoodB l) true
      (Ev_one fun k => by simp only [spec_BalsOk.l0]; rw [if_neg (by omega)])
      (fun i hi => by
        have e : ∀ k, spec_BalsOk.l0 (k + 1) l (i : Int) = if No (l.getD i z58).f0 then (if No (l.getD i z58).f1 then (if Amt (l.getD i z58).f2 then (if (l.getD i z58).f2 = 0 then some false else (if 0 < i then (if Bef (l.getD (i - 1) z58).f0 (l.getD (i - 1) z58).f1 (l.getD i z58).f0 (l.getD i z58).f1 then spec_BalsOk.l0 k l ((i + 1 : Nat) : Int) else some false) else spec_BalsOk.l0 k l ((i + 1 : Nat) : Int))) else some false) else some false) else some false := by
          intro k
          simp only [spec_BalsOk.l0]
          rw [if_pos (by omega), if_pos (by omega), w_succ hi (by omega)]
          by_cases h0 : 0 < i
          · rw [w_pred hi h0 (by omega)]
            simp only [no_s, amt_s, before_s, Option.bind_some, decide_eq_true_iff, rdB]
            simp only [if_pos (show (i : Int) > 0 by omega), if_pos (show (0 : Int) ≤ ((i - 1 : Nat) : Int) by omega), if_pos (show ((i - 1 : Nat) : Int) < (l.length : Int) by omega), if_pos h0]
          · simp only [no_s, amt_s, before_s, Option.bind_some, decide_eq_true_iff, rdB]
            simp only [if_neg (show ¬ (i : Int) > 0 by omega), if_neg h0]
        by_cases hg : GoodB l i
        · refine .inl ⟨hg, fun k => ?_⟩
          obtain ⟨g1, g2, g3, g4, g5⟩ := hg
          show spec_BalsOk.l0 (k + 1) l (i : Int) = _
          rw [e k, if_pos g1, if_pos g2, if_pos g3, if_neg g4]
          split
          · rename_i h0
            rw [if_pos (g5 h0)]
          · rfl
        · refine .inr ⟨hg, fun k => ?_⟩
          show spec_BalsOk.l0 (k + 1) l (i : Int) = _
          rw [e k]
          unfold GoodB at hg
          split
          · rename_i h1
            split
            · rename_i h2
              split
              · rename_i h3
                split
                · rfl
                · rename_i h4
                  split
                  · rw [if_neg (fun h6 => hg ⟨h1, h2, h3, h4, fun _ => h6⟩)]
                  · rename_i h5
                    exact absurd ⟨h1, h2, h3, h4, fun h6 => absurd h6 h5⟩ hg
              · rfl
            · rfl
          · rfl) l.length 0 (by omega) (by omega)
    have hq : r = okB l := by
      rw [Bool.eq_iff_iff, hiff, okB_iff]
      exact ⟨fun h => ⟨by omega, fun j hj => h.1 j (Nat.zero_le _) hj⟩, fun h => ⟨fun j _ hj => h.2 j hj, rfl⟩⟩
    subst hq
    exact Ev.congr (fun k => by rw [if_neg hn]; rfl) hr

theorem balsOk_i (l : List S58) (hm : l.length ≤ 9223372036854775807) : Ev (fun k => impl_BalsOk.f k l) (okB l) := by
  unfold impl_BalsOk.f
  obtain ⟨r, hr, hiff⟩ := Ev_asks' (fun k i => impl_BalsOk.l0 k l l (l.length : Int) i) l.length (GoodB l) (decide ((l.length : Int) ≤ 160))
      (Ev_one fun k => by simp only [impl_BalsOk.l0]; rw [if_neg (by omega)])
      (fun i hi => by
        -- the round's first part: what it asks of the balance itself
        have e : ∀ k, impl_BalsOk.l0 (k + 1) l l (l.length : Int) (i : Int) = impl_BalsOk.j1 k l (i : Int) l (l.length : Int) (i : Int) (!decide (No (l.getD i z58).f0 ∧ No (l.getD i z58).f1 ∧ Amt (l.getD i z58).f2 ∧ (l.getD i z58).f2 ≠ 0)) (l.getD i z58).f0 (l.getD i z58).f1 (l.getD i z58).f2 := by
          intro k
          simp only [impl_BalsOk.l0]
          rw [if_pos (by omega), if_pos (by omega), if_pos (by omega)]
          simp only [no_i, amt_i, Option.bind_some, decide_eq_true_iff, rdB]
          by_cases h1 : No (l.getD i z58).f0
          · by_cases h2 : No (l.getD i z58).f1
            · by_cases h3 : Amt (l.getD i z58).f2
              · rw [if_pos h1, if_pos h2, if_pos h3]
                congr 1
                by_cases h4 : (l.getD i z58).f2 = 0
                · rw [decide_eq_false (fun g => g.2.2.2 h4), h4]; rfl
                · rw [decide_eq_true (show _ ∧ _ from ⟨h1, h2, h3, h4⟩)]; simpa using h4
              · rw [if_pos h1, if_pos h2, if_neg h3, decide_eq_false (fun g => h3 g.2.2.1)]; rfl
            · rw [if_pos h1, if_neg h2, decide_eq_false (fun g => h2 g.2.1)]; rfl
          · rw [if_neg h1, decide_eq_false (fun g => h1 g.1)]; rfl
        by_cases hw : No (l.getD i z58).f0 ∧ No (l.getD i z58).f1 ∧ Amt (l.getD i z58).f2 ∧ (l.getD i z58).f2 ≠ 0
        · by_cases h0 : 0 < i
          · have e2 : ∀ k, impl_BalsOk.j1 (k + 1) l (i : Int) l (l.length : Int) (i : Int) false (l.getD i z58).f0 (l.getD i z58).f1 (l.getD i z58).f2 = (impl_byBoth.f k (l.getD (i - 1) z58).f0 (l.getD (i - 1) z58).f1 (l.getD i z58).f0 (l.getD i z58).f1).bind fun t => if t ≥ 0 then some false else impl_BalsOk.l0 k l l (l.length : Int) ((i + 1 : Nat) : Int) := by
              intro k
              simp only [impl_BalsOk.j1]
              rw [if_neg (by decide), if_pos (by omega), w_pred hi h0 (by omega), if_pos (by omega), if_pos (by omega), w_succ hi (by omega)]
              simp only [rdB]
            by_cases hb : Bef (l.getD (i - 1) z58).f0 (l.getD (i - 1) z58).f1 (l.getD i z58).f0 (l.getD i z58).f1
            · refine .inl ⟨⟨hw.1, hw.2.1, hw.2.2.1, hw.2.2.2, fun _ => hb⟩, fun r hr => ?_⟩
              refine Ev.step (fun k => by rw [e k, decide_eq_true hw]) (Ev.step e2 (Ev_bind (both_i _ _ _ _) ?_))
              exact Ev.congr (fun k => by rw [if_neg (fun g => cmp_neg.1 g hb)]) hr
            · refine .inr ⟨fun g => hb (g.2.2.2.2 h0), ?_⟩
              refine Ev.step (fun k => by rw [e k, decide_eq_true hw]) (Ev.step e2 (Ev_bind (both_i _ _ _ _) ?_))
              exact Ev_all_k fun k => by rw [if_pos (cmp_neg.2 hb)]
          · refine .inl ⟨⟨hw.1, hw.2.1, hw.2.2.1, hw.2.2.2, fun g => absurd g h0⟩, fun r hr => ?_⟩
            refine Ev.step (fun k => by rw [e k, decide_eq_true hw]) (Ev.step (fun k => ?_) hr)
            show impl_BalsOk.j1 (k + 1) l (i : Int) l (l.length : Int) (i : Int) false _ _ _ = _
            simp only [impl_BalsOk.j1]
            rw [if_neg (by decide), if_neg (by omega), w_succ hi (by omega)]
        · refine .inr ⟨fun g => hw ⟨g.1, g.2.1, g.2.2.1, g.2.2.2.1⟩, ?_⟩
          refine Ev.step (fun k => by rw [e k, decide_eq_false hw]) (Ev_one fun k => ?_)
          show impl_BalsOk.j1 (k + 1) l (i : Int) l (l.length : Int) (i : Int) true _ _ _ = _
          simp only [impl_BalsOk.j1]
          rw [if_pos trivial]) l.length 0 (by omega) (by omega)
  have hq : r = okB l := by
    rw [Bool.eq_iff_iff, hiff, okB_iff, decide_eq_true_iff]
    exact ⟨fun h => ⟨by omega, fun j hj => h.1 j (Nat.zero_le _) hj⟩, fun h => ⟨fun j _ hj => h.2 j hj, by have := h.1; omega⟩⟩
  subst hq
  exact hr
end Go.Proofs.Ytpcjpjjkaplebaa.B1
