/- A drawn balance that is put is told, and turns no other one; put as nothing it is gone; no condition. -/
import Derived.Test.YtpcjpjjkaplebaaZFnBalPut3
import Derived.SizedLaws
import Derived.ChangeSlices
import Derived.Test.YtpcjpjjkaplebaaRows
import Derived.WalkKit
import Derived.ProofKit
import Derived.OpenShut
import Derived.ShutString
import Derived.ChangeOld
import Derived.Below
namespace Go.Proofs.Ytpcjpjjkaplebaa.P
end Go.Proofs.Ytpcjpjjkaplebaa.P
namespace Go.Proofs.Ytpcjpjjkaplebaa.EV
end Go.Proofs.Ytpcjpjjkaplebaa.EV
namespace Go.Proofs.Ytpcjpjjkaplebaa.I1
end Go.Proofs.Ytpcjpjjkaplebaa.I1
namespace Go.Proofs.Ytpcjpjjkaplebaa.N1
end Go.Proofs.Ytpcjpjjkaplebaa.N1
namespace Go.Proofs.Ytpcjpjjkaplebaa.B1
end Go.Proofs.Ytpcjpjjkaplebaa.B1
namespace Go.Proofs.Ytpcjpjjkaplebaa.B2
end Go.Proofs.Ytpcjpjjkaplebaa.B2
namespace Go.Proofs.Ytpcjpjjkaplebaa.B3
end Go.Proofs.Ytpcjpjjkaplebaa.B3
namespace Go.Proofs.Ytpcjpjjkaplebaa.B4
end Go.Proofs.Ytpcjpjjkaplebaa.B4
namespace Go.Proofs.Ytpcjpjjkaplebaa.G1
end Go.Proofs.Ytpcjpjjkaplebaa.G1
namespace Go.Proofs.Ytpcjpjjkaplebaa.B5
end Go.Proofs.Ytpcjpjjkaplebaa.B5
namespace Go.Proofs.Ytpcjpjjkaplebaa.D1
end Go.Proofs.Ytpcjpjjkaplebaa.D1
namespace Go.Proofs.Ytpcjpjjkaplebaa.B6
end Go.Proofs.Ytpcjpjjkaplebaa.B6
namespace Go.Proofs.Ytpcjpjjkaplebaa.D3
end Go.Proofs.Ytpcjpjjkaplebaa.D3
namespace Go.Proofs.Ytpcjpjjkaplebaa.B1
open Go Go.RowKit Go.Proofs.Ytpcjpjjkaplebaa.P Go.Proofs.YtpcjpjjkaplebaaW.PrintWords Go.Proofs.YtpcjpjjkaplebaaW.PrintLast Go.Proofs.Ytpcjpjjkaplebaa.EV Go.Proofs.Ytpcjpjjkaplebaa.I1 Go.Proofs.Ytpcjpjjkaplebaa.N1
def Bef (a b c d : Int) : Prop := a < c ∨ (a = c ∧ b < d)
instance (a b c d : Int) : Decidable (Bef a b c d) := by unfold Bef; exact inferInstance
def cmp (a b c d : Int) : Int := if Bef a b c d then -1 else (if a = c ∧ b = d then 0 else 1)
theorem before_s (a b c d : Int) : spec_l4Before.f a b c d = some (decide (Bef a b c d)) := by
  unfold spec_l4Before.f
  by_cases h : a < c
  · rw [if_pos h, decide_eq_true (show Bef a b c d from .inl h)]
  · rw [if_neg h]
    by_cases h2 : a = c
    · rw [if_pos h2]
      congr 1
      rw [Bool.eq_iff_iff, decide_eq_true_iff, decide_eq_true_iff]
      exact ⟨fun g => .inr ⟨h2, g⟩, fun g => g.elim (fun g => absurd g h) (fun g => g.2)⟩
    · rw [if_neg h2, decide_eq_false (show ¬ Bef a b c d from fun g => g.elim h fun g => h2 g.1)]
theorem both_i (a b c d : Int) : Ev (fun k => impl_byBoth.f k a b c d) (cmp a b c d) := by
  unfold impl_byBoth.f
  have yes : Bef a b c d → Ev (fun k => impl_byBoth.j0 k a b c d true) (cmp a b c d) := fun h => Ev_one fun k => by
    simp only [impl_byBoth.j0]
    rw [if_pos trivial]
    unfold cmp
    rw [if_pos h]
  have no : ¬ Bef a b c d → Ev (fun k => impl_byBoth.j0 k a b c d false) (cmp a b c d) := fun h => Ev_one fun k => by
    simp only [impl_byBoth.j0]
    rw [if_neg (by decide)]
    unfold cmp
    rw [if_neg h]
    by_cases h1 : a = c
    · by_cases h2 : b = d
      · rw [if_pos h1, if_pos h2, if_pos ⟨h1, h2⟩]
      · rw [if_pos h1, if_neg h2, if_neg fun g => h2 g.2]
    · rw [if_neg h1, if_neg fun g => h1 g.1]
  by_cases h : a < c
  · exact Ev.congr (fun k => by rw [if_pos h]) (yes (.inl h))
  · by_cases h2 : a = c
    · by_cases h3 : b < d
      · exact Ev.congr (fun k => by rw [if_neg h, if_pos h2, decide_eq_true h3]) (yes (.inr ⟨h2, h3⟩))
      · exact Ev.congr (fun k => by rw [if_neg h, if_pos h2, decide_eq_false h3]) (no fun g => g.elim h fun g => h3 g.2)
    · exact Ev.congr (fun k => by rw [if_neg h, if_neg h2]) (no fun g => g.elim h fun g => h2 g.1)
theorem cmp_neg {a b c d : Int} : cmp a b c d ≥ 0 ↔ ¬ Bef a b c d := by
  unfold cmp
  by_cases h : Bef a b c d
  · rw [if_pos h]
    exact ⟨fun g => absurd g (by decide), fun g => absurd h g⟩
  · rw [if_neg h]
    refine ⟨fun _ => h, fun _ => ?_⟩
    split <;> decide
theorem cmp_zero {a b c d : Int} : cmp a b c d = 0 ↔ a = c ∧ b = d := by
  unfold cmp
  by_cases h : Bef a b c d
  · rw [if_pos h]
    refine ⟨fun g => absurd g (by decide), fun g => ?_⟩
    unfold Bef at h
    omega
  · rw [if_neg h]
    by_cases h2 : a = c ∧ b = d
    · rw [if_pos h2]; exact ⟨fun _ => h2, fun _ => rfl⟩
    · rw [if_neg h2]; exact ⟨fun g => absurd g (by decide), fun g => absurd g h2⟩
theorem rdB (l : List S58) (i : Nat) : rd_T58 l (i : Int) = l.getD i z58 := by unfold rd_T58; rw [Int.toNat_natCast]
def GoodB (l : List S58) (j : Nat) : Prop :=
  No (l.getD j z58).f0 ∧ No (l.getD j z58).f1 ∧ Amt (l.getD j z58).f2 ∧ (l.getD j z58).f2 ≠ 0 ∧ (0 < j → Bef (l.getD (j - 1) z58).f0 (l.getD (j - 1) z58).f1 (l.getD j z58).f0 (l.getD j z58).f1)
def OkB (l : List S58) : Prop := l.length ≤ 160 ∧ ∀ j, j < l.length → GoodB l j
noncomputable def okB (l : List S58) : Bool := @decide (OkB l) (Classical.propDecidable _)
theorem okB_iff (l : List S58) : okB l = true ↔ OkB l := by unfold okB; exact @decide_eq_true_iff _ (Classical.propDecidable _)
theorem okB_no {l : List S58} (h : ¬ OkB l) : okB l = false := by rw [Bool.eq_false_iff, Ne, okB_iff]; exact h
theorem balsOk_s (l : List S58) : Ev (fun k => spec_BalsOk.f k l) (okB l) := by
  unfold spec_BalsOk.f
  by_cases hn : (l.length : Int) > 160
  · rw [okB_no fun h => by have := h.1; omega]
    exact Ev_all_k fun k => by rw [if_pos hn]
  · obtain ⟨r, hr, hiff⟩ := Ev_asks (fun k i => spec_BalsOk.l0 k l i) l.length (GoodB l) true
      (Ev_one fun k => by simp only [spec_BalsOk.l0]; rw [if_neg (by omega)])
      (fun i hi => by
        have e : ∀ k, spec_BalsOk.l0 (k + 1) l (i : Int) = if No (l.getD i z58).f0 then (if No (l.getD i z58).f1 then (if Amt (l.getD i z58).f2 then (if (l.getD i z58).f2 = 0 then some false else (if 0 < i then (if Bef (l.getD (i - 1) z58).f0 (l.getD (i - 1) z58).f1 (l.getD i z58).f0 (l.getD i z58).f1 then spec_BalsOk.l0 k l ((i + 1 : Nat) : Int) else some false) else spec_BalsOk.l0 k l ((i + 1 : Nat) : Int))) else some false) else some false) else some false := by
          intro k
          simp only [spec_BalsOk.l0]
          rw [if_pos (by omega), if_pos (by omega), w_succ hi (by omega)]
          by_cases h0 : 0 < i
          · rw [w_pred hi h0 (by omega)]
            simp only [no_s, amt_s, before_s, Option.bind_some, decide_eq_true_iff, rdB]
            simp only [if_pos (show (i : Int) > 0 by omega), if_pos (show (0 : Int) ≤ ((i - 1 : Nat) : Int) by omega), if_pos (show ((i - 1 : Nat) : Int) < (l.length : Int) by omega), if_pos h0]
          · simp only [no_s, amt_s, before_s, Option.bind_some, decide_eq_true_iff, rdB]
            simp only [if_neg (show ¬ (i : Int) > 0 by omega), if_neg h0]
        by_cases hg : GoodB l i
        · refine .inl ⟨hg, fun k => ?_⟩
          obtain ⟨g1, g2, g3, g4, g5⟩ := hg
          show spec_BalsOk.l0 (k + 1) l (i : Int) = _
          rw [e k, if_pos g1, if_pos g2, if_pos g3, if_neg g4]
          split
          · rename_i h0
            rw [if_pos (g5 h0)]
          · rfl
        · refine .inr ⟨hg, fun k => ?_⟩
          show spec_BalsOk.l0 (k + 1) l (i : Int) = _
          rw [e k]
          unfold GoodB at hg
          split
          · rename_i h1
            split
            · rename_i h2
              split
              · rename_i h3
                split
                · rfl
                · rename_i h4
                  split
                  · rw [if_neg (fun h6 => hg ⟨h1, h2, h3, h4, fun _ => h6⟩)]
                  · rename_i h5
                    exact absurd ⟨h1, h2, h3, h4, fun h6 => absurd h6 h5⟩ hg
              · rfl
            · rfl
          · rfl) l.length 0 (by omega) (by omega)
    have hq : r = okB l := by
      rw [Bool.eq_iff_iff, hiff, okB_iff]
      exact ⟨fun h => ⟨by omega, fun j hj => h.1 j (Nat.zero_le _) hj⟩, fun h => ⟨fun j _ hj => h.2 j hj, rfl⟩⟩
    subst hq
    exact Ev.congr (fun k => by rw [if_neg hn]; rfl) hr
theorem balsOk_i (l : List S58) (hm : l.length ≤ 9223372036854775807) : Ev (fun k => impl_BalsOk.f k l) (okB l) := by
  unfold impl_BalsOk.f
  obtain ⟨r, hr, hiff⟩ := Ev_asks' (fun k i => impl_BalsOk.l0 k l l (l.length : Int) i) l.length (GoodB l) (decide ((l.length : Int) ≤ 160))
      (Ev_one fun k => by simp only [impl_BalsOk.l0]; rw [if_neg (by omega)])
      (fun i hi => by
        -- the round's first part: what it asks of the balance itself
        have e : ∀ k, impl_BalsOk.l0 (k + 1) l l (l.length : Int) (i : Int) = impl_BalsOk.j1 k l (i : Int) l (l.length : Int) (i : Int) (!decide (No (l.getD i z58).f0 ∧ No (l.getD i z58).f1 ∧ Amt (l.getD i z58).f2 ∧ (l.getD i z58).f2 ≠ 0)) (l.getD i z58).f0 (l.getD i z58).f1 (l.getD i z58).f2 := by
          intro k
          simp only [impl_BalsOk.l0]
          rw [if_pos (by omega), if_pos (by omega), if_pos (by omega)]
          simp only [no_i, amt_i, Option.bind_some, decide_eq_true_iff, rdB]
          by_cases h1 : No (l.getD i z58).f0
          · by_cases h2 : No (l.getD i z58).f1
            · by_cases h3 : Amt (l.getD i z58).f2
              · rw [if_pos h1, if_pos h2, if_pos h3]
                congr 1
                by_cases h4 : (l.getD i z58).f2 = 0
                · rw [decide_eq_false (fun g => g.2.2.2 h4), h4]; rfl
                · rw [decide_eq_true (show _ ∧ _ from ⟨h1, h2, h3, h4⟩)]; simpa using h4
              · rw [if_pos h1, if_pos h2, if_neg h3, decide_eq_false (fun g => h3 g.2.2.1)]; rfl
            · rw [if_pos h1, if_neg h2, decide_eq_false (fun g => h2 g.2.1)]; rfl
          · rw [if_neg h1, decide_eq_false (fun g => h1 g.1)]; rfl
        by_cases hw : No (l.getD i z58).f0 ∧ No (l.getD i z58).f1 ∧ Amt (l.getD i z58).f2 ∧ (l.getD i z58).f2 ≠ 0
        · by_cases h0 : 0 < i
          · have e2 : ∀ k, impl_BalsOk.j1 (k + 1) l (i : Int) l (l.length : Int) (i : Int) false (l.getD i z58).f0 (l.getD i z58).f1 (l.getD i z58).f2 = (impl_byBoth.f k (l.getD (i - 1) z58).f0 (l.getD (i - 1) z58).f1 (l.getD i z58).f0 (l.getD i z58).f1).bind fun t => if t ≥ 0 then some false else impl_BalsOk.l0 k l l (l.length : Int) ((i + 1 : Nat) : Int) := by
              intro k
              simp only [impl_BalsOk.j1]
              rw [if_neg (by decide), if_pos (by omega), w_pred hi h0 (by omega), if_pos (by omega), if_pos (by omega), w_succ hi (by omega)]
              simp only [rdB]
            by_cases hb : Bef (l.getD (i - 1) z58).f0 (l.getD (i - 1) z58).f1 (l.getD i z58).f0 (l.getD i z58).f1
            · refine .inl ⟨⟨hw.1, hw.2.1, hw.2.2.1, hw.2.2.2, fun _ => hb⟩, fun r hr => ?_⟩
              refine Ev.step (fun k => by rw [e k, decide_eq_true hw]) (Ev.step e2 (Ev_bind (both_i _ _ _ _) ?_))
              exact Ev.congr (fun k => by rw [if_neg (fun g => cmp_neg.1 g hb)]) hr
            · refine .inr ⟨fun g => hb (g.2.2.2.2 h0), ?_⟩
              refine Ev.step (fun k => by rw [e k, decide_eq_true hw]) (Ev.step e2 (Ev_bind (both_i _ _ _ _) ?_))
              exact Ev_all_k fun k => by rw [if_pos (cmp_neg.2 hb)]
          · refine .inl ⟨⟨hw.1, hw.2.1, hw.2.2.1, hw.2.2.2, fun g => absurd g h0⟩, fun r hr => ?_⟩
            refine Ev.step (fun k => by rw [e k, decide_eq_true hw]) (Ev.step (fun k => ?_) hr)
            show impl_BalsOk.j1 (k + 1) l (i : Int) l (l.length : Int) (i : Int) false _ _ _ = _
            simp only [impl_BalsOk.j1]
            rw [if_neg (by decide), if_neg (by omega), w_succ hi (by omega)]
        · refine .inr ⟨fun g => hw ⟨g.1, g.2.1, g.2.2.1, g.2.2.2.1⟩, ?_⟩
          refine Ev.step (fun k => by rw [e k, decide_eq_false hw]) (Ev_one fun k => ?_)
          show impl_BalsOk.j1 (k + 1) l (i : Int) l (l.length : Int) (i : Int) true _ _ _ = _
          simp only [impl_BalsOk.j1]
          rw [if_pos trivial]) l.length 0 (by omega) (by omega)
  have hq : r = okB l := by
    rw [Bool.eq_iff_iff, hiff, okB_iff, decide_eq_true_iff]
    exact ⟨fun h => ⟨by omega, fun j hj => h.1 j (Nat.zero_le _) hj⟩, fun h => ⟨fun j _ hj => h.2 j hj, by have := h.1; omega⟩⟩
  subst hq
  exact hr
end Go.Proofs.Ytpcjpjjkaplebaa.B1
namespace Go.Proofs.Ytpcjpjjkaplebaa.B2
open Go Go.RowKit Go.Proofs.Ytpcjpjjkaplebaa.P Go.Proofs.YtpcjpjjkaplebaaW.PrintWords Go.Proofs.YtpcjpjjkaplebaaW.PrintLast Go.Proofs.Ytpcjpjjkaplebaa.EV Go.Proofs.Ytpcjpjjkaplebaa.I1 Go.Proofs.Ytpcjpjjkaplebaa.N1 Go.Proofs.Ytpcjpjjkaplebaa.B1
abbrev SB := S58
def ofB (a b : Int) : List SB → Int
  | [] => 0
  | x :: l => if x.f0 = a ∧ x.f1 = b then x.f2 else ofB a b l
theorem ofB_drop (a b : Int) (l : List SB) (i : Nat) (hi : i < l.length) : ofB a b (l.drop i) = if (l.getD i z58).f0 = a ∧ (l.getD i z58).f1 = b then (l.getD i z58).f2 else ofB a b (l.drop (i + 1)) := by
  rw [drop_getD z58 l i hi]; rfl
theorem ahead {l : List SB} (h : ∀ j, j < l.length → GoodB l j) : ∀ (d i j : Nat), j - i = d → i < j → j < l.length → Bef (l.getD i z58).f0 (l.getD i z58).f1 (l.getD j z58).f0 (l.getD j z58).f1 := by
  intro d
  induction d with
  | zero => intro i j h1 h2; omega
  | succ d ih =>
    intro i j hd hi hj
    have g := (h j hj).2.2.2.2 (by omega)
    rcases Nat.lt_or_ge i (j - 1) with h2 | h2
    · have g2 := ih i (j - 1) (by omega) h2 (by omega)
      unfold Bef at *
      omega
    · obtain rfl : i = j - 1 := by omega
      exact g
theorem ofB_none (a b : Int) : ∀ (l : List SB), (∀ x ∈ l, ¬ (x.f0 = a ∧ x.f1 = b)) → ofB a b l = 0
  | [], _ => rfl
  | x :: l, h => by
    unfold ofB
    rw [if_neg (h x List.mem_cons_self)]
    exact ofB_none a b l fun y hy => h y (List.mem_cons_of_mem _ hy)
theorem mem_drop {l : List SB} {i : Nat} {x : SB} (h : x ∈ l.drop i) : ∃ j, i ≤ j ∧ j < l.length ∧ l.getD j z58 = x := by
  obtain ⟨j, hj, rfl⟩ := List.getElem_of_mem h
  rw [List.length_drop] at hj
  refine ⟨i + j, by omega, by omega, ?_⟩
  rw [List.getD_eq_getElem?_getD, List.getElem?_eq_getElem (by omega), List.getElem_drop]
  rfl
def atB (a b : Int) : List SB → Nat → Nat × Bool
  | [], i => (i, false)
  | x :: l, i => if cmp x.f0 x.f1 a b ≥ 0 then (i, cmp x.f0 x.f1 a b == 0) else atB a b l (i + 1)
theorem atB_drop (a b : Int) (l : List SB) (i : Nat) (hi : i < l.length) : atB a b (l.drop i) i = if cmp (l.getD i z58).f0 (l.getD i z58).f1 a b ≥ 0 then (i, cmp (l.getD i z58).f0 (l.getD i z58).f1 a b == 0) else atB a b (l.drop (i + 1)) (i + 1) := by
  rw [drop_getD z58 l i hi]; rfl
theorem atB_range (a b : Int) : ∀ (l : List SB) (i : Nat), i ≤ (atB a b l i).1 ∧ (atB a b l i).1 ≤ i + l.length ∧ ((atB a b l i).2 = true → (atB a b l i).1 < i + l.length)
  | [], i => by unfold atB; simp
  | x :: l, i => by
    unfold atB
    have := atB_range a b l (i + 1)
    rw [List.length_cons]
    split
    · exact ⟨Nat.le_refl _, by show i ≤ _; omega, fun _ => by show i < _; omega⟩
    · exact ⟨by omega, by omega, fun h => by have := this.2.2 h; omega⟩
theorem at_i (l : List SB) (a b : Int) (hm : l.length ≤ 9223372036854775807) : Ev (fun k => impl_balAt.f k l a b) (((atB a b l 0).1 : Int), (atB a b l 0).2) := by
  unfold impl_balAt.f
  have h := Ev_goes' (fun k (_ : Unit) i => impl_balAt.l0 k l a b l (l.length : Int) i) l.length (fun i _ => (((atB a b (l.drop i) i).1 : Int), (atB a b (l.drop i) i).2)) (fun _ _ => True)
    (fun _ _ => Ev_one fun k => by
      simp only [impl_balAt.l0]
      rw [if_neg (by omega), List.drop_length]
      rfl)
    (fun i _ hi _ => by
      have e : ∀ k, impl_balAt.l0 (k + 1) l a b l (l.length : Int) (i : Int) = (impl_byBoth.f k (l.getD i z58).f0 (l.getD i z58).f1 a b).bind fun t => if t ≥ 0 then some ((i : Int), t == 0) else impl_balAt.l0 k l a b l (l.length : Int) ((i + 1 : Nat) : Int) := by
        intro k
        simp only [impl_balAt.l0, rdB]
        rw [if_pos (by omega), if_pos (by omega), if_pos (by omega), w_succ hi (by omega)]
      by_cases h : cmp (l.getD i z58).f0 (l.getD i z58).f1 a b ≥ 0
      · refine .inl (Ev.step e (Ev_bind (both_i _ _ _ _) (Ev_all_k fun k => ?_)))
        rw [if_pos h, atB_drop a b l i hi, if_pos h]
      · refine .inr ⟨(), trivial, by show (((atB a b (l.drop (i + 1)) (i + 1)).1 : Int), (atB a b (l.drop (i + 1)) (i + 1)).2) = (((atB a b (l.drop i) i).1 : Int), (atB a b (l.drop i) i).2); rw [atB_drop a b l i hi, if_neg h], fun r hr => ?_⟩
        exact Ev.step e (Ev_bind (both_i _ _ _ _) (Ev.congr (fun k => by rw [if_neg h]) hr))) l.length 0 () (by omega) (by omega) trivial
  rw [List.drop_zero] at h
  exact h
theorem at_of {l : List SB} (h : ∀ j, j < l.length → GoodB l j) (a b : Int) : ∀ (d i : Nat), l.length - i = d → i ≤ l.length → (if (atB a b (l.drop i) i).2 = true then (l.getD (atB a b (l.drop i) i).1 z58).f2 else 0) = ofB a b (l.drop i) := by
  intro d
  induction d with
  | zero =>
    intro i hd hi
    obtain rfl : i = l.length := by omega
    rw [List.drop_length]
    rfl
  | succ d ih =>
    intro i hd hi
    have hi2 : i < l.length := by omega
    rw [atB_drop a b l i hi2, ofB_drop a b l i hi2]
    by_cases h1 : cmp (l.getD i z58).f0 (l.getD i z58).f1 a b ≥ 0
    · rw [if_pos h1]
      by_cases h2 : (l.getD i z58).f0 = a ∧ (l.getD i z58).f1 = b
      · rw [if_pos h2, cmp_zero.2 h2]
        rfl
      · rw [if_neg h2, if_neg (by simp only [beq_iff_eq]; rw [cmp_zero]; exact h2)]
        symm
        apply ofB_none
        intro x hx
        obtain ⟨j, hj1, hj2, rfl⟩ := mem_drop hx
        have g := ahead h (j - i) i j rfl (by omega) hj2
        have g2 := cmp_neg.1 h1
        unfold Bef at g g2
        omega
    · rw [if_neg h1, ih (i + 1) (by omega) (by omega)]
      rw [if_neg]
      intro h2
      exact h1 (by rw [cmp_zero.2 h2]; decide)
theorem of_i {l : List SB} (h : OkB l) (a b : Int) : Ev (fun k => impl_balOf.f k l a b) (ofB a b l) := by
  unfold impl_balOf.f
  have h1 := h.1
  refine Ev_bind (at_i l a b (by omega)) ?_
  have g := at_of h.2 a b l.length 0 (by omega) (by omega)
  have r := atB_range a b l 0
  rw [List.drop_zero] at g
  rw [← g]
  by_cases h2 : (atB a b l 0).2 = true
  · refine Ev_all_k fun k => ?_
    have := r.2.2 h2
    rw [if_pos h2, if_pos h2, if_pos (by show (0 : Int) ≤ ((atB a b l 0).1 : Int); omega), if_pos (by show ((atB a b l 0).1 : Int) < _; omega), rdB]
  · refine Ev_all_k fun k => ?_
    rw [if_neg h2, if_neg h2]
open Classical in
noncomputable def balOf (l : List SB) (a b : Int) : Int := if OkB l then ofB a b l else 0
theorem balOf_i (l : List SB) (a b : Int) (hm : l.length ≤ 9223372036854775807) : Ev (fun k => impl_BalOf.f k l a b) (balOf l a b) := by
  unfold impl_BalOf.f balOf
  refine Ev_bind (balsOk_i l hm) ?_
  by_cases h : OkB l
  · rw [if_pos h]
    exact Ev.congr (fun k => by rw [if_pos ((okB_iff l).2 h)]) (Ev_bind (of_i h a b) (Ev_all_k fun k => rfl))
  · rw [if_neg h]
    exact Ev_all_k fun k => by rw [if_neg (by rw [okB_no h]; decide)]
end Go.Proofs.Ytpcjpjjkaplebaa.B2
namespace Go.Proofs.Ytpcjpjjkaplebaa.B3
open Go Go.RowKit Go.Proofs.Ytpcjpjjkaplebaa.P Go.Proofs.YtpcjpjjkaplebaaW.PrintWords Go.Proofs.YtpcjpjjkaplebaaW.PrintLast Go.Proofs.Ytpcjpjjkaplebaa.EV Go.Proofs.Ytpcjpjjkaplebaa.I1 Go.Proofs.Ytpcjpjjkaplebaa.N1 Go.Proofs.Ytpcjpjjkaplebaa.B1 Go.Proofs.Ytpcjpjjkaplebaa.B2
theorem take_getD {α : Type} (z : α) (l : List α) (i : Nat) (h : i < l.length) : l.take (i + 1) = l.take i ++ [l.getD i z] := by
  rw [List.take_add_one, List.getD_eq_getElem?_getD, List.getElem?_eq_getElem h]
  rfl
theorem getD_drop {α : Type} (z : α) (l : List α) (p i : Nat) : (l.drop p).getD i z = l.getD (p + i) z := by
  rw [List.getD_eq_getElem?_getD, List.getElem?_drop, List.getD_eq_getElem?_getD]
theorem getD_get {α : Type} (z : α) (l : List α) (i : Nat) (h : i < l.length) : l.getD i z = l[i] := by
  rw [List.getD_eq_getElem?_getD, List.getElem?_eq_getElem h]
  rfl
abbrev Lt (x y : SB) : Prop := Bef x.f0 x.f1 y.f0 y.f1
def Good1 (x : SB) : Prop := No x.f0 ∧ No x.f1 ∧ Amt x.f2 ∧ x.f2 ≠ 0
def SortB (l : List SB) : Prop := (∀ x ∈ l, Good1 x) ∧ l.Pairwise Lt
theorem sortB_good {l : List SB} (h : SortB l) : ∀ j, j < l.length → GoodB l j := by
  intro j hj
  have g : Good1 (l.getD j z58) := by rw [getD_get _ l j hj]; exact h.1 _ (List.getElem_mem hj)
  refine ⟨g.1, g.2.1, g.2.2.1, g.2.2.2, fun h0 => ?_⟩
  rw [getD_get _ l j hj, getD_get _ l (j - 1) (by omega)]
  exact List.pairwise_iff_getElem.1 h.2 (j - 1) j (by omega) hj (by omega)
theorem good_sortB {l : List SB} (h : ∀ j, j < l.length → GoodB l j) : SortB l := by
  refine ⟨fun x hx => ?_, List.pairwise_iff_getElem.2 fun i j hi hj hij => ?_⟩
  · obtain ⟨j, hj, rfl⟩ := List.getElem_of_mem hx
    have g := h j hj
    unfold GoodB at g
    rw [getD_get _ l j hj] at g
    exact ⟨g.1, g.2.1, g.2.2.1, g.2.2.2.1⟩
  · have g := B2.ahead h (j - i) i j rfl hij hj
    rw [getD_get _ l j hj, getD_get _ l i hi] at g
    exact g
theorem okB_sort (l : List SB) : OkB l ↔ l.length ≤ 160 ∧ SortB l := ⟨fun h => ⟨h.1, good_sortB h.2⟩, fun h => ⟨h.1, sortB_good h.2⟩⟩
def key (x : SB) (a b : Int) : Prop := x.f0 = a ∧ x.f1 = b
instance (x : SB) (a b : Int) : Decidable (key x a b) := by unfold key; exact inferInstance
theorem atB_skip (a b : Int) : ∀ (l : List SB) (i j : Nat), i + j < (atB a b l i).1 → Bef (l.getD j z58).f0 (l.getD j z58).f1 a b
  | [], i, j, h => by unfold atB at h; exact absurd h (by show ¬ (i + j < i); omega)
  | x :: l, i, j, h => by
    unfold atB at h
    split at h
    · exact absurd h (by show ¬ (i + j < i); omega)
    · rename_i hc
      have hb : Bef x.f0 x.f1 a b := by
        apply Classical.byContradiction
        intro g
        exact hc (cmp_neg.2 g)
      cases j with
      | zero => exact hb
      | succ j => exact atB_skip a b l (i + 1) j (by omega)
theorem atB_stop (a b : Int) : ∀ (l : List SB) (i : Nat), (atB a b l i).1 < i + l.length → ¬ Bef (l.getD ((atB a b l i).1 - i) z58).f0 (l.getD ((atB a b l i).1 - i) z58).f1 a b ∧ ((atB a b l i).2 = true ↔ key (l.getD ((atB a b l i).1 - i) z58) a b)
  | [], i, h => by unfold atB at h; exact absurd h (by simp)
  | x :: l, i, h => by
    have hr := atB_range a b l (i + 1)
    unfold atB at h ⊢
    split
    · rename_i hc
      rw [show (i, cmp x.f0 x.f1 a b == 0).1 - i = 0 by show i - i = 0; omega]
      refine ⟨cmp_neg.1 hc, ?_⟩
      show ((cmp x.f0 x.f1 a b == 0) = true ↔ key x a b)
      rw [beq_iff_eq, cmp_zero]
      rfl
    · rename_i hc
      rw [if_neg hc, List.length_cons] at h
      have g := atB_stop a b l (i + 1) (by omega)
      rw [show (atB a b l (i + 1)).1 - i = ((atB a b l (i + 1)).1 - (i + 1)) + 1 by omega]
      exact g
theorem atB_end (a b : Int) (l : List SB) (h : (atB a b l 0).1 = l.length) : (atB a b l 0).2 = false := by
  cases e : (atB a b l 0).2 with
  | false => rfl
  | true =>
    have := (atB_range a b l 0).2.2 e
    omega
def ins (a b n : Int) : List SB := if n = 0 then [] else [⟨a, b, n⟩]
def nxt (a b : Int) (l : List SB) : Nat := if (atB a b l 0).2 = true then (atB a b l 0).1 + 1 else (atB a b l 0).1
def putB (l : List SB) (a b n : Int) : List SB := l.take (atB a b l 0).1 ++ ins a b n ++ l.drop (nxt a b l)
theorem nxt_le (a b : Int) (l : List SB) : (atB a b l 0).1 ≤ nxt a b l ∧ nxt a b l ≤ l.length := by
  have := atB_range a b l 0
  unfold nxt
  split
  · rename_i h
    have := this.2.2 h
    omega
  · omega
theorem clone_i (x : List SB) (hx : x.length ≤ 1048577) : impl_Bal_62.f x = some x := by
  unfold impl_Bal_62.f
  rw [Option.bind_some, List.length_nil, if_pos (by omega), List.nil_append]
theorem put_i (l : List SB) (a b n : Int) (hm : l.length ≤ 1048576) : Ev (fun k => impl_withBal.f k l a b n) (putB l a b n) := by
  unfold impl_withBal.f
  refine Ev.congr (fun k => by rw [clone_i l (by omega), Option.bind_some]) ?_
  refine Ev_bind (at_i l a b (by omega)) ?_
  have hr := atB_range a b l 0
  unfold putB nxt ins
  cases e : (atB a b l 0).2 with
  | true =>
    have hp := hr.2.2 e
    rw [if_pos (show true = true from rfl)]
    refine Ev_all_k fun k => ?_
    dsimp only
    rw [if_pos rfl, w_succ (n := l.length) (by omega) (by omega)]
    unfold impl_Bal_76.f
    rw [if_pos ⟨by omega, by omega, by omega, by omega⟩, Option.bind_some, Int.toNat_natCast, Int.toNat_natCast]
    by_cases h : n = 0
    · rw [if_pos h, if_pos h, List.append_nil]
    · rw [if_neg h, if_neg h]
      unfold impl_Bal_77.f
      have ll : (l.take (atB a b l 0).1 ++ l.drop ((atB a b l 0).1 + 1)).length = l.length - 1 := by simp; omega
      rw [if_pos ⟨by omega, by rw [ll]; omega, rfl, by rw [ll]; omega⟩, Option.bind_some, Int.toNat_natCast]
      have lt : (l.take (atB a b l 0).1).length = (atB a b l 0).1 := by rw [List.length_take]; omega
      rw [List.take_append_of_le_length (by omega), List.take_of_length_le (by omega), List.drop_append_of_le_length (by omega), List.drop_of_length_le (by omega), List.nil_append]
  | false =>
    rw [if_neg (show ¬ (false = true) by decide)]
    refine Ev_all_k fun k => ?_
    dsimp only
    rw [if_neg (show ¬ (false = true) by decide)]
    by_cases h : n = 0
    · rw [if_pos h, if_pos h, List.append_nil, List.take_append_drop]
    · rw [if_neg h, if_neg h]
      unfold impl_Bal_77.f
      rw [if_pos ⟨by omega, by omega, rfl, by omega⟩, Option.bind_some, Int.toNat_natCast]
theorem key_not {l : List SB} (h : SortB l) (a b : Int) (i : Nat) (hi : i < l.length) (hp : i ≠ (atB a b l 0).1) : ¬ key (l.getD i z58) a b := by
  intro g
  unfold key at g
  rcases Nat.lt_or_gt_of_ne hp with h1 | h1
  · have := atB_skip a b l 0 i (by omega)
    rw [g.1, g.2] at this
    unfold Bef at this
    omega
  · have h2 := (atB_stop a b l 0 (by omega)).1
    rw [Nat.sub_zero] at h2
    have h3 := B2.ahead (sortB_good h) (i - (atB a b l 0).1) _ i rfl h1 hi
    rw [g.1, g.2] at h3
    exact h2 h3
def Gs (l : List SB) (a b n : Int) (i : Nat) : List SB × Bool :=
  if i ≤ (atB a b l 0).1 then (l.take i, n == 0) else (l.take (atB a b l 0).1 ++ ins a b n ++ (l.drop (nxt a b l)).take (i - nxt a b l), true)
theorem put_s {l : List SB} (h : SortB l) (a b n : Int) (hm : l.length ≤ 1048576) : Ev (fun k => spec_l4Put.f k l a b n) (putB l a b n) := by
  unfold spec_l4Put.f
  have hr := atB_range a b l 0
  have hx := nxt_le a b l
  refine Ev_goes' (fun k (s : List SB × Bool) i => spec_l4Put.l0 k l a b s.1 s.2 i a b n) l.length (fun _ _ => putB l a b n) (fun i s => s = Gs l a b n i)
    (fun s hs => Ev_one fun k => ?_) (fun i s hi hs => .inr ⟨Gs l a b n (i + 1), rfl, rfl, fun r hr2 => ?_⟩) l.length 0 ([], n == 0) (by omega) (by omega) (by unfold Gs; rw [if_pos (Nat.zero_le _)]; rfl)
  · subst hs
    unfold Gs putB
    by_cases h1 : l.length ≤ (atB a b l 0).1
    · have e1 : (atB a b l 0).1 = l.length := by omega
      rw [if_pos h1]
      unfold nxt
      rw [atB_end a b l e1, if_neg (by decide), e1, List.take_length, List.drop_length, List.append_nil]
      dsimp only
      simp only [spec_l4Put.l0]
      rw [if_neg (by omega)]
      unfold ins
      by_cases hn : n = 0
      · rw [if_pos (by rw [hn]; rfl), if_pos hn, List.append_nil]
      · rw [if_neg (by rw [beq_iff_eq]; exact hn), if_neg hn, if_pos (by omega)]
    · rw [if_neg h1, List.take_of_length_le (l := l.drop (nxt a b l)) (by rw [List.length_drop]; exact Nat.le_refl _)]
      dsimp only
      simp only [spec_l4Put.l0]
      rw [if_neg (by omega), if_pos trivial]
  · subst hs
    have hk : ¬ i = (atB a b l 0).1 → ¬ ((l.getD i z58).f0 = a ∧ (l.getD i z58).f1 = b) := fun g => key_not h a b i hi g
    -- the round's second half where nothing is put
    have second : ∀ (out : List SB) (put : Bool) (r : List SB), out.length ≤ 1048577 → Ev (fun k => spec_l4Put.l0 k l a b (if (l.getD i z58).f0 = a ∧ (l.getD i z58).f1 = b then out else out ++ [l.getD i z58]) put ((i + 1 : Nat) : Int) a b n) r →
        Ev (fun k => spec_l4Put.j1 k l a b out put (i : Int) false a b n (l.getD i z58).f0 (l.getD i z58).f1 (l.getD i z58).f2) r := fun out put r ho hq => by
      refine Ev.step (fun k => ?_) hq
      show spec_l4Put.j1 (k + 1) l a b out put (i : Int) false a b n _ _ _ = _
      simp only [spec_l4Put.j1]
      rw [if_neg (by decide), w_succ hi (by omega)]
      by_cases g1 : (l.getD i z58).f0 = a
      · by_cases g2 : (l.getD i z58).f1 = b
        · rw [if_pos g1, if_pos g2, if_pos ⟨g1, g2⟩]
        · rw [if_pos g1, if_neg g2, if_pos (by omega), if_neg (fun g => g2 g.2)]
      · rw [if_neg g1, if_pos (by omega), if_neg (fun g => g1 g.1)]
    have first : ∀ (out : List SB) (r : List SB), Ev (fun k => spec_l4Put.j1 k l a b out true (i : Int) false a b n (l.getD i z58).f0 (l.getD i z58).f1 (l.getD i z58).f2) r → Ev (fun k => spec_l4Put.l0 k l a b out true (i : Int) a b n) r := fun out r hq => by
      refine Ev.step (fun k => ?_) hq
      show spec_l4Put.l0 (k + 1) l a b out true (i : Int) a b n = _
      simp only [spec_l4Put.l0, rdB]
      rw [if_pos (by omega), if_pos (by omega), if_pos trivial]
    have first2 : ∀ (out : List SB) (r : List SB), Ev (fun k => spec_l4Put.j1 k l a b out false (i : Int) (!decide (Bef (l.getD i z58).f0 (l.getD i z58).f1 a b)) a b n (l.getD i z58).f0 (l.getD i z58).f1 (l.getD i z58).f2) r → Ev (fun k => spec_l4Put.l0 k l a b out false (i : Int) a b n) r := fun out r hq => by
      refine Ev.step (fun k => ?_) hq
      show spec_l4Put.l0 (k + 1) l a b out false (i : Int) a b n = _
      simp only [spec_l4Put.l0, rdB]
      rw [if_pos (by omega), if_pos (by omega), if_neg (by decide), before_s, Option.bind_some]
    have lt : (l.take i).length ≤ 1048577 := by rw [List.length_take]; omega
    by_cases h1 : i < (atB a b l 0).1
    · have hb := atB_skip a b l 0 i (by omega)
      have hn := hk (by omega)
      unfold Gs at hr2 ⊢
      rw [if_pos (by omega)] at hr2
      rw [if_pos (by omega)]
      rw [take_getD z58 l i hi] at hr2
      have key2 := second (l.take i) (n == 0) r lt (by rw [if_neg hn]; exact hr2)
      dsimp only at hr2 ⊢
      cases e : (n == 0) with
      | true => rw [e] at key2; exact first _ r key2
      | false => rw [e] at key2; exact first2 _ r (by rw [decide_eq_true hb]; exact key2)
    · by_cases h2 : i = (atB a b l 0).1
      · have hs := atB_stop a b l 0 (by omega)
        rw [Nat.sub_zero, ← h2] at hs
        obtain ⟨hnb, hiff⟩ := hs
        unfold Gs at hr2 ⊢
        rw [if_neg (by omega)] at hr2
        rw [if_pos (by omega)]
        rw [← h2] at hr2
        have hrest : (if (l.getD i z58).f0 = a ∧ (l.getD i z58).f1 = b then l.take i ++ ins a b n else l.take i ++ ins a b n ++ [l.getD i z58]) = l.take i ++ ins a b n ++ (l.drop (nxt a b l)).take (i + 1 - nxt a b l) := by
          unfold nxt
          by_cases e : (atB a b l 0).2 = true
          · have hk1 : (l.getD i z58).f0 = a ∧ (l.getD i z58).f1 = b := hiff.1 e
            rw [if_pos hk1, if_pos e, ← h2, Nat.sub_self, List.take_zero, List.append_nil]
          · have hk1 : ¬ ((l.getD i z58).f0 = a ∧ (l.getD i z58).f1 = b) := fun g => e (hiff.2 g)
            rw [if_neg hk1, if_neg e, ← h2, show i + 1 - i = 0 + 1 by omega, drop_getD z58 l i hi, List.take_succ_cons, List.take_zero]
        rw [← hrest] at hr2
        dsimp only at hr2 ⊢
        by_cases hn : n = 0
        · subst hn
          have hi0 : ins a b 0 = [] := rfl
          rw [hi0, List.append_nil] at hr2
          exact first _ r (second (l.take i) true r lt hr2)
        · have e0 : (n == 0) = false := by rw [beq_eq_false_iff_ne]; exact hn
          rw [e0]
          refine first2 _ r ?_
          rw [decide_eq_false hnb]
          have hi0 : ins a b n = [⟨a, b, n⟩] := by unfold ins; rw [if_neg hn]
          rw [hi0] at hr2
          refine Ev.step (fun k => ?_) hr2
          show spec_l4Put.j1 (k + 1) l a b (l.take i) false (i : Int) true a b n _ _ _ = _
          simp only [spec_l4Put.j1]
          rw [if_pos trivial, if_pos (by omega), Option.bind_some, w_succ hi (by omega)]
          have ll : (l.take i ++ [(⟨a, b, n⟩ : SB)]).length < 5864062014805 := by rw [List.length_append, List.length_take]; simp; omega
          by_cases g1 : (l.getD i z58).f0 = a
          · by_cases g2 : (l.getD i z58).f1 = b
            · rw [if_pos g1, if_pos g2, if_pos ⟨g1, g2⟩]
            · rw [if_pos g1, if_neg g2, if_pos ll, if_neg (fun g => g2 g.2)]
          · rw [if_neg g1, if_pos ll, if_neg (fun g => g1 g.1)]
      · have hn := hk h2
        have hq : nxt a b l ≤ i := by unfold nxt; split <;> omega
        unfold Gs at hr2 ⊢
        rw [if_neg (by omega)] at hr2
        rw [if_neg (by omega)]
        have hg : (l.drop (nxt a b l)).take (i + 1 - nxt a b l) = (l.drop (nxt a b l)).take (i - nxt a b l) ++ [l.getD i z58] := by
          rw [show i + 1 - nxt a b l = (i - nxt a b l) + 1 by omega, take_getD z58 _ _ (by rw [List.length_drop]; omega), getD_drop, show nxt a b l + (i - nxt a b l) = i by omega]
        rw [hg, ← List.append_assoc] at hr2
        dsimp only at hr2 ⊢
        refine first _ r (second _ true r ?_ (by rw [if_neg hn]; exact hr2))
        rw [List.length_append, List.length_append, List.length_take, List.length_take, List.length_drop]
        unfold ins
        split <;> simp <;> omega
end Go.Proofs.Ytpcjpjjkaplebaa.B3
namespace Go.Proofs.Ytpcjpjjkaplebaa.B4
open Go Go.RowKit Go.Proofs.Ytpcjpjjkaplebaa.P Go.Proofs.YtpcjpjjkaplebaaW.PrintWords Go.Proofs.YtpcjpjjkaplebaaW.PrintLast Go.Proofs.Ytpcjpjjkaplebaa.EV Go.Proofs.Ytpcjpjjkaplebaa.I1 Go.Proofs.Ytpcjpjjkaplebaa.N1 Go.Proofs.Ytpcjpjjkaplebaa.B1 Go.Proofs.Ytpcjpjjkaplebaa.B2 Go.Proofs.Ytpcjpjjkaplebaa.B3
theorem mem_take_getD {l : List SB} {p : Nat} {x : SB} (h : x ∈ l.take p) : ∃ j, j < p ∧ j < l.length ∧ l.getD j z58 = x := by
  obtain ⟨j, hj, rfl⟩ := List.getElem_of_mem h
  rw [List.length_take] at hj
  refine ⟨j, by omega, by omega, ?_⟩
  rw [getD_get _ l j (by omega), List.getElem_take]
theorem take_before {l : List SB} (a b : Int) {x : SB} (hx : x ∈ l.take (atB a b l 0).1) : Bef x.f0 x.f1 a b := by
  obtain ⟨j, hj, _, rfl⟩ := mem_take_getD hx
  exact atB_skip a b l 0 j (by omega)
theorem drop_after {l : List SB} (h : SortB l) (a b : Int) {x : SB} (hx : x ∈ l.drop (nxt a b l)) : Bef a b x.f0 x.f1 := by
  obtain ⟨j, hj, hjl, rfl⟩ := mem_drop hx
  have hr := atB_range a b l 0
  have hn := nxt_le a b l
  have hp : (atB a b l 0).1 < l.length := by omega
  obtain ⟨h1, h2⟩ := atB_stop a b l 0 (by omega)
  rw [Nat.sub_zero] at h1 h2
  unfold nxt at hj
  by_cases e : (atB a b l 0).2 = true
  · rw [if_pos e] at hj
    have hk := h2.1 e
    have h3 := B2.ahead (sortB_good h) (j - (atB a b l 0).1) _ j rfl (by omega) hjl
    rw [hk.1, hk.2] at h3
    exact h3
  · rw [if_neg e] at hj
    have hk : ¬ key (l.getD (atB a b l 0).1 z58) a b := fun g => e (h2.2 g)
    have h4 : Bef a b (l.getD (atB a b l 0).1 z58).f0 (l.getD (atB a b l 0).1 z58).f1 := by
      unfold Bef key at *
      omega
    rcases Nat.eq_or_lt_of_le hj with h5 | h5
    · rw [← h5]; exact h4
    · have h3 := B2.ahead (sortB_good h) (j - (atB a b l 0).1) _ j rfl h5 hjl
      unfold Bef at *
      omega
theorem bef_trans {a b c d e f : Int} (h : Bef a b c d) (k : Bef c d e f) : Bef a b e f := by
  unfold Bef at *
  omega
theorem bef_irr {a b : Int} (h : Bef a b a b) : False := by
  unfold Bef at h
  omega
theorem putB_sort {l : List SB} (h : SortB l) {a b n : Int} (ha : No a) (hb : No b) (hn : Amt n) : SortB (putB l a b n) := by
  have hins : ∀ x ∈ ins a b n, x = ⟨a, b, n⟩ ∧ n ≠ 0 := by
    intro x hx
    unfold ins at hx
    split at hx
    · cases hx
    · rename_i h0
      exact ⟨by simpa using hx, h0⟩
  refine ⟨fun x hx => ?_, ?_⟩
  · unfold putB at hx
    rw [List.mem_append, List.mem_append] at hx
    rcases hx with (hx | hx) | hx
    · exact h.1 x (List.mem_of_mem_take hx)
    · obtain ⟨rfl, h0⟩ := hins x hx
      exact ⟨ha, hb, hn, h0⟩
    · exact h.1 x (List.mem_of_mem_drop hx)
  · unfold putB
    have p1 : (l.take (atB a b l 0).1).Pairwise Lt := h.2.sublist (List.take_sublist _ _)
    have p2 : (l.drop (nxt a b l)).Pairwise Lt := h.2.sublist (List.drop_sublist _ _)
    have p3 : (ins a b n).Pairwise Lt := by
      unfold ins
      split
      · exact List.Pairwise.nil
      · exact List.pairwise_singleton _ _
    rw [List.pairwise_append, List.pairwise_append]
    refine ⟨⟨p1, p3, fun x hx y hy => ?_⟩, p2, fun x hx y hy => ?_⟩
    · obtain ⟨rfl, _⟩ := hins y hy
      exact take_before a b hx
    · rcases List.mem_append.1 hx with hx | hx
      · exact bef_trans (take_before a b hx) (drop_after h a b hy)
      · obtain ⟨rfl, _⟩ := hins x hx
        exact drop_after h a b hy
theorem mem_putB {l : List SB} (h : SortB l) (a b n : Int) (x : SB) : x ∈ putB l a b n ↔ (x ∈ l ∧ ¬ key x a b) ∨ (n ≠ 0 ∧ x = ⟨a, b, n⟩) := by
  have hr := atB_range a b l 0
  unfold putB
  rw [List.mem_append, List.mem_append]
  constructor
  · rintro ((hx | hx) | hx)
    · refine .inl ⟨List.mem_of_mem_take hx, fun hk => ?_⟩
      have := take_before a b hx
      rw [hk.1, hk.2] at this
      exact bef_irr this
    · unfold ins at hx
      split at hx
      · cases hx
      · rename_i h0
        exact .inr ⟨h0, by simpa using hx⟩
    · refine .inl ⟨List.mem_of_mem_drop hx, fun hk => ?_⟩
      have := drop_after h a b hx
      rw [hk.1, hk.2] at this
      exact bef_irr this
  · rintro (⟨hx, hk⟩ | ⟨h0, rfl⟩)
    · obtain ⟨j, hj, rfl⟩ := List.getElem_of_mem hx
      by_cases h1 : j < (atB a b l 0).1
      · exact .inl (.inl (List.mem_take_iff_getElem.2 ⟨j, by omega, rfl⟩))
      · refine .inr ?_
        have h2 : nxt a b l ≤ j := by
          unfold nxt
          split
          · rename_i e
            rcases Nat.eq_or_lt_of_le (Nat.le_of_not_lt h1) with h3 | h3
            · exfalso
              obtain ⟨_, h4⟩ := atB_stop a b l 0 (by omega)
              rw [Nat.sub_zero] at h4
              have h5 := h4.1 e
              rw [getD_get _ l _ (by omega)] at h5
              simp only [h3] at h5
              exact hk h5
            · omega
          · omega
        rw [List.mem_drop_iff_getElem]
        exact ⟨j - nxt a b l, by omega, by congr 1; omega⟩
    · refine .inl (.inr ?_)
      unfold ins
      rw [if_neg h0]
      exact List.mem_singleton.2 rfl
theorem ofB_mem : ∀ {l : List SB}, l.Pairwise Lt → ∀ x ∈ l, ofB x.f0 x.f1 l = x.f2
  | [], _, x, hx => by cases hx
  | y :: l, h, x, hx => by
    rw [List.pairwise_cons] at h
    unfold ofB
    rcases List.mem_cons.1 hx with rfl | hx
    · rw [if_pos ⟨rfl, rfl⟩]
    · have := h.1 x hx
      rw [if_neg (by unfold Lt Bef at this; omega)]
      exact ofB_mem h.2 x hx
theorem ofB_put {l : List SB} (h : SortB l) {a b n : Int} (ha : No a) (hb : No b) (hn : Amt n) (c d : Int) : ofB c d (putB l a b n) = if c = a ∧ d = b then n else ofB c d l := by
  have hs := putB_sort h ha hb hn
  by_cases hk : c = a ∧ d = b
  · obtain ⟨rfl, rfl⟩ := hk
    rw [if_pos ⟨rfl, rfl⟩]
    by_cases h0 : n = 0
    · subst h0
      refine ofB_none c d _ fun x hx => ?_
      rcases (mem_putB h c d 0 x).1 hx with ⟨_, g⟩ | ⟨g, _⟩
      · exact g
      · exact absurd rfl g
    · exact ofB_mem hs.2 ⟨c, d, n⟩ ((mem_putB h c d n _).2 (.inr ⟨h0, rfl⟩))
  · rw [if_neg hk]
    by_cases he : ∃ x ∈ l, x.f0 = c ∧ x.f1 = d
    · obtain ⟨x, hx, rfl, rfl⟩ := he
      rw [ofB_mem h.2 x hx, ofB_mem hs.2 x ((mem_putB h a b n x).2 (.inl ⟨hx, fun g => hk ⟨g.1, g.2⟩⟩))]
    · rw [ofB_none c d l fun x hx g => he ⟨x, hx, g⟩]
      refine ofB_none c d _ fun x hx g => ?_
      rcases (mem_putB h a b n x).1 hx with ⟨g1, _⟩ | ⟨_, rfl⟩
      · exact he ⟨x, g1, g⟩
      · exact hk ⟨g.1.symm, g.2.symm⟩
noncomputable def balPut (l : List SB) (a b n : Int) : List SB × Bool := if okB l = true ∧ No a ∧ No b ∧ Amt n then (if (putB l a b n).length ≤ 160 then (putB l a b n, true) else ([], false)) else ([], false)
theorem balPut_len (l : List SB) (a b n : Int) : (balPut l a b n).1.length ≤ 160 := by
  unfold balPut
  split
  · split
    · assumption
    · exact Nat.zero_le _
  · exact Nat.zero_le _
theorem balPut_i (l : List SB) (a b n : Int) (hm : l.length ≤ 1048576) : Ev (fun k => impl_BalPut.f k l a b n) (balPut l a b n) := by
  unfold impl_BalPut.f
  have no : ¬ (okB l = true ∧ No a ∧ No b ∧ Amt n) → Ev (fun k => impl_BalPut.j0 k l a b n true) (balPut l a b n) := fun h => by
    unfold balPut
    rw [if_neg h]
    exact Ev_one fun k => by simp only [impl_BalPut.j0]; rw [if_pos trivial]
  refine Ev_bind (balsOk_i l (by omega)) ?_
  by_cases h1 : okB l = true
  · refine Ev.congr (fun k => by rw [if_pos h1, no_i, Option.bind_some]) ?_
    by_cases h2 : No a
    · refine Ev.congr (fun k => by rw [if_pos (decide_eq_true h2), no_i, Option.bind_some]) ?_
      by_cases h3 : No b
      · refine Ev.congr (fun k => by rw [if_pos (decide_eq_true h3), amt_i, Option.bind_some]) ?_
        by_cases h4 : Amt n
        · rw [decide_eq_true h4]
          refine Ev.step (fun k => by simp only [impl_BalPut.j0]; rw [if_neg (by decide)]) ?_
          refine Ev_bind (put_i l a b n hm) ?_
          have hbp : balPut l a b n = if (putB l a b n).length ≤ 160 then (putB l a b n, true) else ([], false) := if_pos ⟨h1, h2, h3, h4⟩
          rw [hbp]
          by_cases h5 : (putB l a b n).length ≤ 160
          · rw [if_pos h5]
            exact Ev_all_k fun k => by rw [if_neg (by omega)]
          · rw [if_neg h5]
            exact Ev_all_k fun k => by rw [if_pos (by omega)]
        · rw [decide_eq_false h4]
          exact no fun g => h4 g.2.2.2
      · exact Ev.congr (fun k => if_neg (by rw [decide_eq_false h3]; decide)) (no fun g => h3 g.2.2.1)
    · exact Ev.congr (fun k => if_neg (by rw [decide_eq_false h2]; decide)) (no fun g => h2 g.2.1)
  · exact Ev.congr (fun k => if_neg h1) (no fun g => h1 g.1)
theorem balPut_s (l : List SB) (a b n : Int) (hm : l.length ≤ 1048576) : Ev (fun k => spec_BalPut.f k l a b n) (balPut l a b n) := by
  unfold spec_BalPut.f
  have no : ¬ (okB l = true ∧ No a ∧ No b ∧ Amt n) → Ev (fun k => spec_BalPut.j0 k l a b n true) (balPut l a b n) := fun h => by
    unfold balPut
    rw [if_neg h]
    exact Ev_one fun k => by simp only [spec_BalPut.j0]; rw [if_pos trivial]
  refine Ev_bind (balsOk_s l) ?_
  by_cases h1 : okB l = true
  · refine Ev.congr (fun k => by rw [if_pos h1, no_s, Option.bind_some]) ?_
    by_cases h2 : No a
    · refine Ev.congr (fun k => by rw [if_pos (decide_eq_true h2), no_s, Option.bind_some]) ?_
      by_cases h3 : No b
      · refine Ev.congr (fun k => by rw [if_pos (decide_eq_true h3), amt_s, Option.bind_some]) ?_
        by_cases h4 : Amt n
        · rw [decide_eq_true h4]
          refine Ev.step (fun k => by simp only [spec_BalPut.j0]; rw [if_neg (by decide)]) ?_
          have hs := ((okB_sort l).1 ((okB_iff l).1 h1)).2
          refine Ev_bind (put_s hs a b n hm) (Ev_bind (balsOk_s _) ?_)
          have hbp : balPut l a b n = if (putB l a b n).length ≤ 160 then (putB l a b n, true) else ([], false) := if_pos ⟨h1, h2, h3, h4⟩
          rw [hbp]
          by_cases h5 : (putB l a b n).length ≤ 160
          · rw [if_pos h5, (okB_iff _).2 ((okB_sort _).2 ⟨h5, putB_sort hs h2 h3 h4⟩)]
            exact Ev_all_k fun k => rfl
          · rw [if_neg h5, okB_no fun g => h5 g.1]
            exact Ev_all_k fun k => rfl
        · rw [decide_eq_false h4]
          exact no fun g => h4 g.2.2.2
      · exact Ev.congr (fun k => if_neg (by rw [decide_eq_false h3]; decide)) (no fun g => h3 g.2.2.1)
    · exact Ev.congr (fun k => if_neg (by rw [decide_eq_false h2]; decide)) (no fun g => h2 g.2.1)
  · exact Ev.congr (fun k => if_neg h1) (no fun g => h1 g.1)
end Go.Proofs.Ytpcjpjjkaplebaa.B4
namespace Go.Proofs.Ytpcjpjjkaplebaa.G1
open Go Go.RowKit Go.Proofs.Ytpcjpjjkaplebaa.P Go.Proofs.YtpcjpjjkaplebaaW.PrintWords Go.Proofs.YtpcjpjjkaplebaaW.PrintLast Go.Proofs.Ytpcjpjjkaplebaa.EV Go.Proofs.Ytpcjpjjkaplebaa.I1 Go.Proofs.Ytpcjpjjkaplebaa.N1
abbrev SL := S61
def GoodL (x : SL) : Prop := No x.f0 ∧ No x.f1 ∧ Amt x.f2
instance (x : SL) : Decidable (GoodL x) := by unfold GoodL; exact inferInstance
end Go.Proofs.Ytpcjpjjkaplebaa.G1
namespace Go.Proofs.Ytpcjpjjkaplebaa.B6
open Go Go.RowKit Go.Proofs.Ytpcjpjjkaplebaa.P Go.Proofs.YtpcjpjjkaplebaaW.PrintWords Go.Proofs.YtpcjpjjkaplebaaW.PrintLast Go.Proofs.Ytpcjpjjkaplebaa.EV Go.Proofs.Ytpcjpjjkaplebaa.I1 Go.Proofs.Ytpcjpjjkaplebaa.N1 Go.Proofs.Ytpcjpjjkaplebaa.B1 Go.Proofs.Ytpcjpjjkaplebaa.B2 Go.Proofs.Ytpcjpjjkaplebaa.B3 Go.Proofs.Ytpcjpjjkaplebaa.B4 Go.Proofs.Ytpcjpjjkaplebaa.G1 Go.Proofs.Ytpcjpjjkaplebaa.B5
theorem ofB_some {l : List SB} {a b : Int} (hn : ofB a b l ≠ 0) : ∃ x ∈ l, x.f0 = a ∧ x.f1 = b := by
  apply Classical.byContradiction
  intro he
  exact hn (ofB_none a b l fun x hx g => he ⟨x, hx, g⟩)
theorem same_mem {l m : List SB} (hl : SortB l) (hm : SortB m) (h : ∀ c d, ofB c d l = ofB c d m) : ∀ x ∈ l, x ∈ m := by
  intro x hx
  have e1 := ofB_mem hl.2 x hx
  have h0 := (hl.1 x hx).2.2.2
  obtain ⟨y, hy, k1, k2⟩ := ofB_some (a := x.f0) (b := x.f1) (by rw [← h, e1]; exact h0)
  have e2 := ofB_mem hm.2 y hy
  rw [k1, k2, ← h, e1] at e2
  have : y = x := by
    cases x
    cases y
    simp_all
  exact this ▸ hy
theorem eq_of_mem : ∀ {l m : List SB}, l.Pairwise Lt → m.Pairwise Lt → (∀ x ∈ l, x ∈ m) → (∀ x ∈ m, x ∈ l) → l = m
  | [], [], _, _, _, _ => rfl
  | [], y :: m, _, _, _, h => by cases h y List.mem_cons_self
  | x :: l, [], _, _, h, _ => by cases h x List.mem_cons_self
  | x :: l, y :: m, hl, hm, h1, h2 => by
    rw [List.pairwise_cons] at hl hm
    have irr : ∀ z : SB, ¬ Lt z z := fun z g => bef_irr g
    have exy : x = y := by
      rcases List.mem_cons.1 (h1 x List.mem_cons_self) with e | hx
      · exact e
      · rcases List.mem_cons.1 (h2 y List.mem_cons_self) with e | hy
        · exact e.symm
        · exact absurd (bef_trans (hm.1 x hx) (hl.1 y hy)) (irr y)
    subst exy
    rw [eq_of_mem hl.2 hm.2 (fun z hz => ?_) (fun z hz => ?_)]
    · rcases List.mem_cons.1 (h1 z (List.mem_cons_of_mem _ hz)) with e | hz2
      · exact absurd (e ▸ hl.1 z hz) (irr _)
      · exact hz2
    · rcases List.mem_cons.1 (h2 z (List.mem_cons_of_mem _ hz)) with e | hz2
      · exact absurd (e ▸ hm.1 z hz) (irr _)
      · exact hz2
theorem ext_of {l m : List SB} (hl : SortB l) (hm : SortB m) (h : ∀ c d, ofB c d l = ofB c d m) : l = m :=
  eq_of_mem hl.2 hm.2 (same_mem hl hm h) (same_mem hm hl fun c d => (h c d).symm)
theorem put_put {l : List SB} (h : SortB l) {a b n m : Int} (ha : No a) (hb : No b) (hn : Amt n) (hm : Amt m) : putB (putB l a b n) a b m = putB l a b m := by
  have h1 := putB_sort h ha hb hn
  refine ext_of (putB_sort h1 ha hb hm) (putB_sort h ha hb hm) fun c d => ?_
  rw [ofB_put h1 ha hb hm, ofB_put h ha hb hm, ofB_put h ha hb hn]
  split <;> rfl
theorem put_zero_len (l : List SB) (a b : Int) : (putB l a b 0).length ≤ l.length := by
  have := nxt_le a b l
  unfold putB ins
  rw [if_pos rfl, List.append_nil, List.length_append, List.length_take, List.length_drop]
  omega
end Go.Proofs.Ytpcjpjjkaplebaa.B6
namespace Go.Proofs.Ytpcjpjjkaplebaa.D3
open Go Go.RowKit Go.Proofs.Ytpcjpjjkaplebaa.P Go.Proofs.YtpcjpjjkaplebaaW.PrintWords Go.Proofs.YtpcjpjjkaplebaaW.PrintLast Go.Proofs.Ytpcjpjjkaplebaa.EV Go.Proofs.Ytpcjpjjkaplebaa.D1 Go.Proofs.Ytpcjpjjkaplebaa.I1 Go.Proofs.Ytpcjpjjkaplebaa.N1 Go.Proofs.Ytpcjpjjkaplebaa.B1 Go.Proofs.Ytpcjpjjkaplebaa.B2 Go.Proofs.Ytpcjpjjkaplebaa.B3 Go.Proofs.Ytpcjpjjkaplebaa.B4
theorem drawNo_ok (b : List Int) (i h : Int) (hv : V b i) : ∃ x i' h', spec_l3DrawNo.f b i h = some (x, i', h') ∧ V b i' := by
  unfold spec_l3DrawNo.f
  obtain ⟨x, i1, g1, e1, v1⟩ := once_ok b i h 15 hv (by decide)
  rw [e1, Option.bind_some]
  cases x with
  | true =>
    obtain ⟨y, i2, g2, e2, _, v2⟩ := pick_ok b i1 g1 [0, (-1), 1000, 1001] v1 (by decide) (by decide)
    refine ⟨y, i2, g2, ?_, v2⟩
    dsimp only
    rw [if_pos rfl, e2]
    rfl
  | false =>
    obtain ⟨y, i2, g2, e2, _, _, _, v2⟩ := below_ok b i1 g1 9 v1 (by decide)
    refine ⟨wrap64 (1 + y), i2, g2, ?_, v2⟩
    dsimp only
    rw [if_neg (by decide), e2]
    rfl
theorem drawBals_e (b : List Int) (n : Int) (i : Int) (l : List SB) (c h : Int) (hin : ¬ i < n) (hl : l.length ≤ 160) (hv : V b c) : ∃ r c' h', (∀ k, spec_l4DrawBals.l0 (k + 1) l n i b c h = some (r, c', h')) ∧ r.length ≤ 161 ∧ V b c' := by
  obtain ⟨x, i1, g1, e1, _, _, _, v1⟩ := below_ok b c h 25 hv (by decide)
  by_cases h0 : x = 0
  · obtain ⟨y, i2, g2, e2, v2⟩ := drawNo_ok b i1 g1 v1
    obtain ⟨z, i3, g3, e3, v3⟩ := drawNo_ok b i2 g2 v2
    obtain ⟨u, i4, g4, e4, _, _, _, v4⟩ := below_ok b i3 g3 2 v3 (by decide)
    refine ⟨l ++ [⟨y, z, u⟩], i4, g4, fun k => ?_, by simp; omega, v4⟩
    simp only [spec_l4DrawBals.l0]
    rw [if_neg hin, e1, Option.bind_some, if_pos h0]
    simp only [e2, e3, e4, Option.bind_some]
    rw [if_pos (by omega)]
  · by_cases h1 : x = 1
    · by_cases h2 : (l.length : Int) > 0
      · obtain ⟨y, i2, g2, e2, _, v2⟩ := pick_ok b i1 g1 [1000000000000000, (-1000000000000000), 1000000000000001, 0] v1 (by decide) (by decide)
        refine ⟨l.set (0 : Int).toNat (⟨(rd_T58 l 0).f0, (rd_T58 l 0).f1, y⟩ : SB), i2, g2, fun k => ?_, by rw [List.length_set]; omega, v2⟩
        simp only [spec_l4DrawBals.l0]
        rw [if_neg hin, e1, Option.bind_some, if_neg h0, if_pos h1, if_pos h2, e2, Option.bind_some, if_pos (by omega)]
      · refine ⟨l, i1, g1, fun k => ?_, by omega, v1⟩
        simp only [spec_l4DrawBals.l0]
        rw [if_neg hin, e1, Option.bind_some, if_neg h0, if_pos h1, if_neg h2]
    · refine ⟨l, i1, g1, fun k => ?_, by omega, v1⟩
      simp only [spec_l4DrawBals.l0]
      rw [if_neg hin, e1, Option.bind_some, if_neg h0, if_neg h1]
theorem drawBals_l (b : List Int) (n : Int) (hn : n ≤ 300) : ∀ (d : Nat) (i : Int) (l : List SB) (c h : Int), (n - i).toNat = d → 0 ≤ i → l.length ≤ 160 → V b c → ∃ r c' h', Ev (fun k => spec_l4DrawBals.l0 k l n i b c h) (r, c', h') ∧ r.length ≤ 161 ∧ V b c' := by
  intro d
  induction d with
  | zero =>
    intro i l c h hd hi hl hv
    obtain ⟨r, c', h', hr, h2, h3⟩ := drawBals_e b n i l c h (by omega) hl hv
    exact ⟨r, c', h', Ev_one hr, h2, h3⟩
  | succ d ih =>
    intro i l c h hd hi hl hv
    have hw2 : wrap64 (i + 1) = i + 1 := w64_in _ (by omega) (by omega)
    have t1 : Int.tdiv n 4 = n / 4 := Int.tdiv_eq_ediv_of_nonneg (by omega)
    have t2 : Int.tdiv n 100 = n / 100 := Int.tdiv_eq_ediv_of_nonneg (by omega)
    have w1 : wrap64 (4 + (wrap64 (Int.tdiv n 4))) ≤ 4294967296 := by rw [t1, w64_in (n / 4) (by omega) (by omega), w64_in _ (by omega) (by omega)]; omega
    have w2 : wrap64 (3 + (wrap64 (Int.tdiv n 100))) ≤ 4294967296 := by rw [t2, w64_in (n / 100) (by omega) (by omega), w64_in _ (by omega) (by omega)]; omega
    obtain ⟨x, i1, g1, e1, _, _, _, v1⟩ := below_ok b c h _ hv w1
    obtain ⟨y, i2, g2, e2, _, _, _, v2⟩ := below_ok b i1 g1 _ v1 w2
    obtain ⟨z, i3, g3, e3, _, _, v3⟩ := drawAmount_ok b i2 g2 v2
    obtain ⟨o, ho⟩ : ∃ o, o = balPut l (wrap64 (1 + x)) (wrap64 (1 + y)) (Int.tmod z 1000000) := ⟨_, rfl⟩
    have hp : Ev (fun k => spec_BalPut.f k l (wrap64 (1 + x)) (wrap64 (1 + y)) (Int.tmod z 1000000)) o := by rw [ho]; exact balPut_s l _ _ _ (by omega)
    have hol : o.1.length ≤ 160 := by rw [ho]; exact balPut_len _ _ _ _
    have e : ∀ k, spec_l4DrawBals.l0 (k + 1) l n i b c h = (spec_BalPut.f k l (wrap64 (1 + x)) (wrap64 (1 + y)) (Int.tmod z 1000000)).bind fun t => if t.2 = true then spec_l4DrawBals.l0 k t.1 n (i + 1) b i3 g3 else spec_l4DrawBals.l0 k l n (i + 1) b i3 g3 := by
      intro k
      simp only [spec_l4DrawBals.l0]
      rw [if_pos (by omega), e1, Option.bind_some]
      simp only [e2, e3, Option.bind_some, hw2]
    cases ho2 : o.2 with
    | true =>
      obtain ⟨r, c', h', hr, hr2, hv2⟩ := ih (i + 1) o.1 i3 g3 (by omega) (by omega) hol v3
      exact ⟨r, c', h', Ev.step e (Ev_bind hp (Ev.congr (fun k => if_pos ho2) hr)), hr2, hv2⟩
    | false =>
      obtain ⟨r, c', h', hr, hr2, hv2⟩ := ih (i + 1) l i3 g3 (by omega) (by omega) hl v3
      exact ⟨r, c', h', Ev.step e (Ev_bind hp (Ev.congr (fun k => if_neg (by rw [ho2]; decide)) hr)), hr2, hv2⟩
theorem drawBals_ok (b : List Int) (i h : Int) (hv : V b i) : ∃ r c' h', Ev (fun k => spec_l4DrawBals.f k b i h) (r, c', h') ∧ r.length ≤ 161 ∧ V b c' := by
  unfold spec_l4DrawBals.f
  obtain ⟨x, i1, g1, e1, x0, x1, _, v1⟩ := below_ok b i h 12 hv (by decide)
  have x2 := x1 (by decide)
  obtain ⟨y, i2, g2, e2, v2⟩ := once_ok b i1 g1 20 v1 (by decide)
  cases y with
  | true =>
    obtain ⟨r, c', h', hr, hr2, hv2⟩ := drawBals_l b 300 (by decide) _ 0 [] i2 g2 rfl (by decide) (by decide) v2
    refine ⟨r, c', h', ?_, hr2, hv2⟩
    refine Ev.congr (fun k => ?_) (Ev.step (g := fun k => spec_l4DrawBals.j0 k [] 300 b i2 g2) (fun k => by simp only [spec_l4DrawBals.j0]) hr)
    rw [Option.bind_some, e1, Option.bind_some]
    simp only [e2, Option.bind_some]
    rw [if_pos trivial]
  | false =>
    obtain ⟨r, c', h', hr, hr2, hv2⟩ := drawBals_l b x (by omega) _ 0 [] i2 g2 rfl (by decide) (by decide) v2
    refine ⟨r, c', h', ?_, hr2, hv2⟩
    refine Ev.congr (fun k => ?_) (Ev.step (g := fun k => spec_l4DrawBals.j0 k [] x b i2 g2) (fun k => by simp only [spec_l4DrawBals.j0]) hr)
    rw [Option.bind_some, e1, Option.bind_some]
    simp only [e2, Option.bind_some]
    rw [if_neg (by decide)]
theorem drawBalPut_ok (l : List Int) (hl : l.length ≤ 140737488351232) : ∃ r x y z, Ev (fun k => spec_DrawBalPut.f k l) (r, x, y, z) ∧ r.length ≤ 161 := by
  unfold spec_DrawBalPut.f
  obtain ⟨h, hn⟩ := new_ok l hl
  obtain ⟨r, c1, h1, hr, hr2, v1⟩ := drawBals_ok l 0 h ⟨by omega, by omega, hl⟩
  obtain ⟨x, i2, g2, e2, _, _, v2⟩ := drawAmount_ok l c1 h1 v1
  obtain ⟨t, i3, g3, e3, v3⟩ := once_ok l i2 g2 4 v2 (by decide)
  obtain ⟨y, i4, g4, e4, v4⟩ := drawNo_ok l i3 g3 v3
  obtain ⟨z, i5, g5, e5, v5⟩ := drawNo_ok l i4 g4 v4
  cases t with
  | true =>
    refine ⟨r, y, z, 0, Ev_bind hn (Ev_bind hr (Ev_all_k fun k => ?_)), hr2⟩
    simp only [e2, e3, e4, e5, Option.bind_some]
    rw [if_pos trivial]
  | false =>
    refine ⟨r, y, z, x, Ev_bind hn (Ev_bind hr (Ev_all_k fun k => ?_)), hr2⟩
    simp only [e2, e3, e4, e5, Option.bind_some]
    rw [if_neg (by decide)]
end Go.Proofs.Ytpcjpjjkaplebaa.D3
namespace Go.Proofs.Ytpcjpjjkaplebaa.Pure
open Go Go.RowKit Go.Proofs.Ytpcjpjjkaplebaa.P Go.Proofs.YtpcjpjjkaplebaaW.PrintWords Go.Proofs.YtpcjpjjkaplebaaW.PrintLast Go.Proofs.Ytpcjpjjkaplebaa.EV Go.Proofs.Ytpcjpjjkaplebaa.D1 Go.Proofs.Ytpcjpjjkaplebaa.I1 Go.Proofs.Ytpcjpjjkaplebaa.N1 Go.Proofs.Ytpcjpjjkaplebaa.B1 Go.Proofs.Ytpcjpjjkaplebaa.B2 Go.Proofs.Ytpcjpjjkaplebaa.B3 Go.Proofs.Ytpcjpjjkaplebaa.B4 Go.Proofs.Ytpcjpjjkaplebaa.B5 Go.Proofs.Ytpcjpjjkaplebaa.B6 Go.Proofs.Ytpcjpjjkaplebaa.D3
theorem FnBalPut : laws_FnBalPut.Pure := by
  intro l0 _ hl1 _
  refine Ev.rounds ?_
  unfold laws_FnBalPut.f
  have hl : l0.length ≤ 140737488351232 := by omega
  refine Ev.congr (fun k => by unfold laws_big.f; rw [Option.bind_some]) ?_
  by_cases hb : (l0.length : Int) > 1048576
  · exact Ev_all_k fun k => by rw [decide_eq_true hb, if_pos rfl]
  refine Ev.congr (fun k => by rw [decide_eq_false hb, if_neg (by decide)]) ?_
  obtain ⟨l, a, b, n, hd, hl2⟩ := drawBalPut_ok l0 hl
  refine Ev_bind hd ?_
  refine Ev_bind (balPut_i l a b n (by omega)) (Ev_bind (balPut_s l a b n (by omega)) ?_)
  refine Ev.congr (fun k => if_neg (by simp)) ?_
  by_cases h : (okB l = true ∧ No a ∧ No b ∧ Amt n) ∧ (putB l a b n).length ≤ 160
  · have e : balPut l a b n = (putB l a b n, true) := by unfold balPut; rw [if_pos h.1, if_pos h.2]
    rw [e]
    refine Ev.congr (fun k => if_pos rfl) ?_
    obtain ⟨⟨h1, h2, h3, h4⟩, h5⟩ := h
    obtain ⟨hl3, hs⟩ := (okB_sort l).1 ((okB_iff l).1 h1)
    have hp := putB_sort hs h2 h3 h4
    have hok : OkB (putB l a b n) := (okB_sort _).2 ⟨h5, hp⟩
    have hbal : ∀ c d, balOf (putB l a b n) c d = if c = a ∧ d = b then n else ofB c d l := fun c d => by
      unfold balOf
      rw [if_pos hok, ofB_put hs h2 h3 h4]
    have z0 : Amt 0 := by unfold Amt; omega
    have hg : putB (putB l a b n) a b 0 = putB l a b 0 := put_put hs h2 h3 h4 z0
    have hg2 := put_zero_len l a b
    have egone : balPut (putB l a b n) a b 0 = (putB l a b 0, true) := by
      unfold balPut
      rw [if_pos ⟨(okB_iff _).2 hok, h2, h3, z0⟩, hg, if_pos (by omega)]
    have hgs := putB_sort hs h2 h3 z0
    refine Ev_goes' (fun k (_ : Unit) i => laws_FnBalPut.l0 k l a b n (putB l a b n) i) l.length (fun _ _ => true) (fun _ _ => True) (fun _ _ => ?_) (fun i _ hi _ => .inr ⟨(), trivial, rfl, fun r hr => ?_⟩) l.length 0 () (by omega) (by omega) trivial
    · refine Ev.step (fun k => by simp only [laws_FnBalPut.l0]; rw [if_neg (by omega)]) ?_
      refine Ev_bind (balPut_i (putB l a b n) a b 0 (by omega)) ?_
      rw [egone]
      refine Ev_bind (balOf_i (putB l a b n) a b (by omega)) ?_
      rw [hbal, if_pos ⟨rfl, rfl⟩]
      refine Ev.congr (fun k => if_pos rfl) ?_
      refine Ev_bind (balsOk_i (putB l a b n) (by omega)) ?_
      rw [(okB_iff _).2 hok]
      refine Ev.congr (fun k => (if_pos rfl).trans (if_pos rfl)) ?_
      refine Ev_bind (balOf_i (putB l a b 0) a b (by omega)) ?_
      have : balOf (putB l a b 0) a b = 0 := by
        unfold balOf
        rw [if_pos ((okB_sort _).2 ⟨by omega, hgs⟩), ofB_put hs h2 h3 z0, if_pos ⟨rfl, rfl⟩]
      rw [this]
      exact Ev_all_k fun k => by rw [if_pos rfl, decide_eq_true (by show ((putB l a b 0).length : Int) ≤ _; omega)]
    · have hx : l.getD i z58 ∈ l := by rw [getD_get _ l i hi]; exact List.getElem_mem hi
      have hof := ofB_mem hs.2 _ hx
      have nextE : ¬ ((l.getD i z58).f0 = a ∧ (l.getD i z58).f1 = b) → Ev (fun k => (impl_BalOf.f k (putB l a b n) (l.getD i z58).f0 (l.getD i z58).f1).bind fun t => (if t = (l.getD i z58).f2 then laws_FnBalPut.l0 k l a b n (putB l a b n) ((i + 1 : Nat) : Int) else none)) r := fun hk => by
        refine Ev_bind (balOf_i _ _ _ (by omega)) ?_
        rw [hbal, if_neg hk, hof]
        exact Ev.congr (fun k => if_pos rfl) hr
      by_cases k1 : (l.getD i z58).f0 = a
      · by_cases k2 : (l.getD i z58).f1 = b
        · refine Ev.step (fun k => ?_) hr
          show laws_FnBalPut.l0 (k + 1) l a b n (putB l a b n) (i : Int) = _
          simp only [laws_FnBalPut.l0, rdB]
          rw [if_pos (by omega), if_pos (by omega), if_pos k1, if_pos k2, w_succ hi (by omega)]
        · refine Ev.step (fun k => ?_) (nextE fun g => k2 g.2)
          show laws_FnBalPut.l0 (k + 1) l a b n (putB l a b n) (i : Int) = _
          simp only [laws_FnBalPut.l0, rdB]
          rw [if_pos (by omega), if_pos (by omega), if_pos k1, if_neg k2, w_succ hi (by omega)]
      · refine Ev.step (fun k => ?_) (nextE fun g => k1 g.1)
        show laws_FnBalPut.l0 (k + 1) l a b n (putB l a b n) (i : Int) = _
        simp only [laws_FnBalPut.l0, rdB]
        rw [if_pos (by omega), if_pos (by omega), if_neg k1, w_succ hi (by omega)]
  · have e : balPut l a b n = ([], false) := by
      unfold balPut
      split
      · rename_i h1
        rw [if_neg fun g => h ⟨h1, g⟩]
      · rfl
    rw [e]
    exact Ev_all_k fun k => rfl
end Go.Proofs.Ytpcjpjjkaplebaa.Pure
namespace Go.Proofs.YtpcjpjjkaplebaaW.PrintWords
open Go.ChangeShapes Go.WideShapes
theorem sized_ints {H : Type} {enc : TypeId × Value → H} {P : Program} {W : World} {base : Nat} {spare : Nat → Bool} {held : Bool} {t e : TypeId} {k : IntKind} {a : Option Addr} {len cap : Nat} {d : DataW H} {ps : List MemPlace} {ts : List TypeId} {ds : List (DataW H)} {j : Nat}
    (hsz : (DataW.weightsEach P ts ds).all (· ≤ reachBytes) = true) (ht : ts[j]? = some t) (hd : ds[j]? = some d) (hu : P.underlying t = some (.slice e)) (he : P.underlying e = some (.int k)) (hc : P.cellsOf e = 1) {B : Nat} (hB : P.bytesOf e = B)
    (h : DataW.Trod enc P W base spare held t (.slice a len cap) d ps) : len * B ≤ 140737488351232 := by
  obtain ⟨fuel, hf⟩ := h
  rcases open_ints hu he hc hf with ⟨hcs, _⟩ | ⟨x, l, c, zs, hcs, _, hl, _, hz, hx, _, _⟩
  · simp [Value.cells] at hcs
    obtain ⟨rfl, rfl, rfl⟩ := hcs
    simp
  · simp [Value.cells] at hcs
    obtain ⟨rfl, rfl, rfl⟩ := hcs
    obtain ⟨hx, _⟩ := Prod.mk.inj hx
    subst hx
    have z := sized_slice hsz ht hd hu
    rw [hB] at z
    have hl2 : len ≤ zs.length := by
      rw [hz]
      split
      · exact hl
      · exact Nat.le_refl _
    have h1 : (lits (H := H) k (zs.take len)).length + (lits (H := H) k (zs.drop len)).length = zs.length := by
      simp [lits]
      omega
    rw [h1] at z
    exact Nat.le_trans (Nat.mul_le_mul_right _ hl2) z
end Go.Proofs.YtpcjpjjkaplebaaW.PrintWords
namespace Go.Proofs.Ytpcjpjjkaplebaa.fnBalPut
open Go.ChangeShapes Go.WideShapes Go.ChangeAt Go.RowKit
open Go.ChangeMaps (open_string shut_string)
set_option linter.unusedVariables false
theorem own : ownKnob Try.prog.godebug = none := by kernel_rfl
theorem laidOut : laidOutB Try.prog = true := by kernel_rfl
def IsRow (k : IntKind) (w : World) (a : Option Addr) (len cap : Nat) (zs : List Int) : Prop :=
  (a = none ∧ len = 0 ∧ cap = 0 ∧ zs = []) ∨
  ∃ x, a = some x ∧ len ≤ cap ∧ cap ≤ maxLen ∧ zs.length = cap ∧ (∀ i, i < zs.length → w.cell? (x.add i) = some (.int k (zs.getD i 0))) ∧ ∀ n ∈ zs, (Lit.int k n).wf = true
set_option maxRecDepth 100000 in
theorem lifted (os : Os) (started : os.Started) (H : Type) (enc : TypeId × Value → H) :
    ReturnsInHanded {} Try.checked os 9 .any (Rows.fnBalPutSpec.pre6 enc Try.prog Try.f9 Rows.fnBalPutRow.domain false) (Rows.fnBalPutSpec.post enc Try.prog Try.f9 false true false false) := by
  refine returnsInHanded_of_change_sized (C := Try.checked) own started (by kernel_rfl) Try.func9
    (ChangeSpec.witness6 (enc := enc) (C := Try.checked) false ⟨#[], #[.slice none 0 0], []⟩ 8 (by kernel_rfl) (by kernel_rfl) (by kernel_rfl) (by kernel_rfl)) ?_
  intro W base args ds gs before hval0 hW hcnd hsz0 _
  have hsz : (DataW.weightsEach Try.prog (Try.f9.params.toList ++ Rows.fnBalPutSpec.plain.varTypes Try.prog) (ds ++ gs)).all (· ≤ reachBytes) = true := hsz0
  have hval : ∀ (j : Nat) t v, Try.f9.params[j]? = some t → args[j]? = some v → Value.okWide Try.prog W .any base t v := hval0
  have hW' := hW
  obtain ⟨p, q, hA0, hV, rfl, hfz, hnd⟩ := hW
  have hA : DataW.TrodAll enc Try.prog W 0 (fun _ => true) true Try.f9.params.toList args.toList ds p := hA0
  rw [Try.params9] at hA hval hsz
  obtain ⟨v0, vs0, d0, ds0, p0, q0, hargs, rfl, rfl, h0, r0⟩ := trodAll_cons hA
  obtain ⟨rfl, rfl, rfl⟩ := trodAll_nil r0
  obtain rfl : args = #[v0] := by cases args; simp_all
  obtain ⟨rfl, rfl⟩ := trodVars_none hV
  obtain ⟨a0, len0, cap0, rfl⟩ := okWide_slice Try.underlying53 (hval 0 53 v0 rfl rfl)
  have k0 := h0
  have lt0 : ∀ x ∈ p0, x.block < W.heap.size := by obtain ⟨m, hm⟩ := k0; exact DataW.trod_lt m _ _ _ hm
  obtain ⟨z0, w0⟩ : ∃ zs, IsRow .u8 W a0 len0 cap0 zs := by
    obtain ⟨fuel, hf⟩ := h0
    rcases open_ints Try.underlying53 Try.underlying5 (by kernel_rfl) hf with ⟨hcs, _⟩ | ⟨x, l, c, zs, hcs, _, hl, hm, hz, _, hcell, hwz⟩
    · simp [Value.cells] at hcs
      obtain ⟨rfl, rfl, rfl⟩ := hcs
      exact ⟨[], .inl ⟨rfl, rfl, rfl, rfl⟩⟩
    · simp [Value.cells] at hcs
      obtain ⟨rfl, rfl, rfl⟩ := hcs
      exact ⟨zs, .inr ⟨_, rfl, hl, hm, by simpa using hz, hcell, hwz⟩⟩
  have y0 : len0 * 1 ≤ 140737488351232 := Go.Proofs.YtpcjpjjkaplebaaW.PrintWords.sized_ints hsz (j := 0) (t := 53) rfl rfl Try.underlying53 Try.underlying5 (by kernel_rfl) (by kernel_rfl) h0
  clear hA0 hval0 hsz0 hsz
  refine (P.laws_FnBalPut.walk Pure.FnBalPut a0 len0 cap0 z0 W w0 y0).mono fun e W' ⟨he, bel⟩ => ?_
  subst he
  exact ⟨_, rfl, _, _, _, [], _, [], hW', trodAll_mk1 (shut_bool Try.underlying4 _), (trodAll_cons_mk (Below.trod laidOut (by kernel_rfl) (of_decide_eq_true (by kernel_rfl)) k0 bel lt0) trodAll_mk0), rfl, bel.frame _, fun h => by cases h⟩
theorem over : Rows.fnBalPutRow.holds Try.pinned (OpenSpec.ofChange Rows.fnBalPutSpec) :=
  OpenClaim.holds_of_wide 9 Try.f9 rfl rfl rfl rfl rfl rfl rfl ⟨rfl, rfl, rfl, rfl, rfl⟩ rfl rfl rfl rfl rfl (by kernel_rfl) Try.func9 (by kernel_rfl)
    (of_decide_eq_true (by kernel_rfl)) (by unfold Func.isWrapper; first | (rw [if_pos (by decide +kernel)]; kernel_rfl) | (rw [if_neg (by decide +kernel)]; exact ⟨rfl, rfl⟩))
    (fun os started H enc _ => lifted os started H enc)
theorem proved : Rows.FnBalPutSaid := over
#print axioms proved
end Go.Proofs.Ytpcjpjjkaplebaa.fnBalPut
namespace Go.Proofs.Ytpcjpjjkaplebaa
theorem fnBalPut_holds : Rows.FnBalPutSaid := fnBalPut.proved
end Go.Proofs.Ytpcjpjjkaplebaa
