/- One balance, and the sum of an instrument's: the program's answer and the reference's, in closed form. -/
import Derived.Test.YtpcjpjjkaplebaaPx0
import Derived.Test.YtpcjpjjkaplebaaPx2
import Derived.Test.YtpcjpjjkaplebaaPx6
import Derived.Test.YtpcjpjjkaplebaaPx7
import Derived.Test.YtpcjpjjkaplebaaEV
import Derived.Test.YtpcjpjjkaplebaaI1
import Derived.Test.YtpcjpjjkaplebaaN1
import Derived.Test.YtpcjpjjkaplebaaB1
namespace Go.Proofs.Ytpcjpjjkaplebaa.B2
open Go Go.RowKit Go.Proofs.Ytpcjpjjkaplebaa.P Go.Proofs.YtpcjpjjkaplebaaW.PrintWords Go.Proofs.YtpcjpjjkaplebaaW.PrintLast Go.Proofs.Ytpcjpjjkaplebaa.EV Go.Proofs.Ytpcjpjjkaplebaa.I1 Go.Proofs.Ytpcjpjjkaplebaa.N1 Go.Proofs.Ytpcjpjjkaplebaa.B1
abbrev SB := S58
/-- The first balance of both. -/
def ofB (a b : Int) : List SB → Int
  | [] => 0
  | x :: l => if x.f0 = a ∧ x.f1 = b then x.f2 else ofB a b l
theorem ofB_drop (a b : Int) (l : List SB) (i : Nat) (hi : i < l.length) : ofB a b (l.drop i) = if (l.getD i z58).f0 = a ∧ (l.getD i z58).f1 = b then (l.getD i z58).f2 else ofB a b (l.drop (i + 1)) := by
  rw [drop_getD z58 l i hi]; rfl
theorem of_s (l : List SB) (a b : Int) (hm : l.length ≤ 9223372036854775807) : Ev (fun k => spec_l4Of.f k l a b) (ofB a b l) := by
  unfold spec_l4Of.f
  have h := Ev_goes (fun k (_ : Unit) i => spec_l4Of.l0 k l a b i) l.length (fun i _ => ofB a b (l.drop i)) (fun _ _ => True)
    (fun _ _ => Ev_one fun k => by
      simp only [spec_l4Of.l0]
      rw [if_neg (by omega), List.drop_length]
      rfl)
    (fun i _ hi _ => by
      by_cases h : (l.getD i z58).f0 = a ∧ (l.getD i z58).f1 = b
      · refine .inl (Ev_one fun k => ?_)
        simp only [spec_l4Of.l0, rdB]
        rw [if_pos (by omega), if_pos (by omega), if_pos h.1, if_pos h.2, ofB_drop a b l i hi, if_pos h]
      · refine .inr ⟨(), trivial, by show ofB a b (l.drop (i + 1)) = ofB a b (l.drop i); rw [ofB_drop a b l i hi, if_neg h], fun k => ?_⟩
        show spec_l4Of.l0 (k + 1) l a b (i : Int) = _
        simp only [spec_l4Of.l0, rdB]
        rw [if_pos (by omega), if_pos (by omega), w_succ hi (by omega)]
        by_cases h1 : (l.getD i z58).f0 = a
        · rw [if_pos h1, if_neg fun h2 => h ⟨h1, h2⟩]
        · rw [if_neg h1]) l.length 0 () (by omega) (by omega) trivial
  rw [List.drop_zero] at h
  exact h

/-- In a list that is right, each stands ahead of all that follow. -/
theorem ahead {l : List SB} (h : ∀ j, j < l.length → GoodB l j) : ∀ (d i j : Nat), j - i = d → i < j → j < l.length → Bef (l.getD i z58).f0 (l.getD i z58).f1 (l.getD j z58).f0 (l.getD j z58).f1 := by
  intro d
  induction d with
  | zero => intro i j h1 h2; omega
  | succ d ih =>
    intro i j hd hi hj
    have g := (h j hj).2.2.2.2 (by omega)
    rcases Nat.lt_or_ge i (j - 1) with h2 | h2
    · have g2 := ih i (j - 1) (by omega) h2 (by omega)
      unfold Bef at *
      omega
    · obtain rfl : i = j - 1 := by omega
      exact g
/-- Where no later one is that of both, the rest holds none. -/
theorem ofB_none (a b : Int) : ∀ (l : List SB), (∀ x ∈ l, ¬ (x.f0 = a ∧ x.f1 = b)) → ofB a b l = 0
  | [], _ => rfl
  | x :: l, h => by
    unfold ofB
    rw [if_neg (h x List.mem_cons_self)]
    exact ofB_none a b l fun y hy => h y (List.mem_cons_of_mem _ hy)
theorem mem_drop {l : List SB} {i : Nat} {x : SB} (h : x ∈ l.drop i) : ∃ j, i ≤ j ∧ j < l.length ∧ l.getD j z58 = x := by
  obtain ⟨j, hj, rfl⟩ := List.getElem_of_mem h
  rw [List.length_drop] at hj
  refine ⟨i + j, by omega, by omega, ?_⟩
  rw [List.getD_eq_getElem?_getD, List.getElem?_eq_getElem (by omega), List.getElem_drop]
  rfl
/-- Where the balance of both stands, or would stand. -/
def atB (a b : Int) : List SB → Nat → Nat × Bool
  | [], i => (i, false)
  | x :: l, i => if cmp x.f0 x.f1 a b ≥ 0 then (i, cmp x.f0 x.f1 a b == 0) else atB a b l (i + 1)
theorem atB_drop (a b : Int) (l : List SB) (i : Nat) (hi : i < l.length) : atB a b (l.drop i) i = if cmp (l.getD i z58).f0 (l.getD i z58).f1 a b ≥ 0 then (i, cmp (l.getD i z58).f0 (l.getD i z58).f1 a b == 0) else atB a b (l.drop (i + 1)) (i + 1) := by
  rw [drop_getD z58 l i hi]; rfl
theorem atB_range (a b : Int) : ∀ (l : List SB) (i : Nat), i ≤ (atB a b l i).1 ∧ (atB a b l i).1 ≤ i + l.length ∧ ((atB a b l i).2 = true → (atB a b l i).1 < i + l.length)
  | [], i => by unfold atB; simp
  | x :: l, i => by
    unfold atB
    have := atB_range a b l (i + 1)
    rw [List.length_cons]
    split
    · exact ⟨Nat.le_refl _, by show i ≤ _; omega, fun _ => by show i < _; omega⟩
    · exact ⟨by omega, by omega, fun h => by have := this.2.2 h; omega⟩
theorem at_i (l : List SB) (a b : Int) (hm : l.length ≤ 9223372036854775807) : Ev (fun k => impl_balAt.f k l a b) (((atB a b l 0).1 : Int), (atB a b l 0).2) := by
  unfold impl_balAt.f
  have h := Ev_goes' (fun k (_ : Unit) i => impl_balAt.l0 k l a b l (l.length : Int) i) l.length (fun i _ => (((atB a b (l.drop i) i).1 : Int), (atB a b (l.drop i) i).2)) (fun _ _ => True)
    (fun _ _ => Ev_one fun k => by
      simp only [impl_balAt.l0]
      rw [if_neg (by omega), List.drop_length]
      rfl)
    (fun i _ hi _ => by
      have e : ∀ k, impl_balAt.l0 (k + 1) l a b l (l.length : Int) (i : Int) = (impl_byBoth.f k (l.getD i z58).f0 (l.getD i z58).f1 a b).bind fun t => if t ≥ 0 then some ((i : Int), t == 0) else impl_balAt.l0 k l a b l (l.length : Int) ((i + 1 : Nat) : Int) := by
        intro k
        simp only [impl_balAt.l0, rdB]
        rw [if_pos (by omega), if_pos (by omega), if_pos (by omega), w_succ hi (by omega)]
      by_cases h : cmp (l.getD i z58).f0 (l.getD i z58).f1 a b ≥ 0
      · refine .inl (Ev.step e (Ev_bind (both_i _ _ _ _) (Ev_all_k fun k => ?_)))
        rw [if_pos h, atB_drop a b l i hi, if_pos h]
      · refine .inr ⟨(), trivial, by show (((atB a b (l.drop (i + 1)) (i + 1)).1 : Int), (atB a b (l.drop (i + 1)) (i + 1)).2) = (((atB a b (l.drop i) i).1 : Int), (atB a b (l.drop i) i).2); rw [atB_drop a b l i hi, if_neg h], fun r hr => ?_⟩
        exact Ev.step e (Ev_bind (both_i _ _ _ _) (Ev.congr (fun k => by rw [if_neg h]) hr))) l.length 0 () (by omega) (by omega) trivial
  rw [List.drop_zero] at h
  exact h
/-- In a list that is right, what stands there is the balance of both. -/
theorem at_of {l : List SB} (h : ∀ j, j < l.length → GoodB l j) (a b : Int) : ∀ (d i : Nat), l.length - i = d → i ≤ l.length → (if (atB a b (l.drop i) i).2 = true then (l.getD (atB a b (l.drop i) i).1 z58).f2 else 0) = ofB a b (l.drop i) := by
  intro d
  induction d with
  | zero =>
    intro i hd hi
    obtain rfl : i = l.length := by omega
    rw [List.drop_length]
    rfl
  | succ d ih =>
    intro i hd hi
    have hi2 : i < l.length := by omega
    rw [atB_drop a b l i hi2, ofB_drop a b l i hi2]
    by_cases h1 : cmp (l.getD i z58).f0 (l.getD i z58).f1 a b ≥ 0
    · rw [if_pos h1]
      by_cases h2 : (l.getD i z58).f0 = a ∧ (l.getD i z58).f1 = b
      · rw [if_pos h2, cmp_zero.2 h2]
        rfl
      · rw [if_neg h2, if_neg (by simp only [beq_iff_eq]; rw [cmp_zero]; exact h2)]
        symm
        apply ofB_none
        intro x hx
        obtain ⟨j, hj1, hj2, rfl⟩ := mem_drop hx
        have g := ahead h (j - i) i j rfl (by omega) hj2
        have g2 := cmp_neg.1 h1
        unfold Bef at g g2
        omega
    · rw [if_neg h1, ih (i + 1) (by omega) (by omega)]
      rw [if_neg]
      intro h2
      exact h1 (by rw [cmp_zero.2 h2]; decide)
theorem of_i {l : List SB} (h : OkB l) (a b : Int) : Ev (fun k => impl_balOf.f k l a b) (ofB a b l) := by
  unfold impl_balOf.f
  have h1 := h.1
  refine Ev_bind (at_i l a b (by omega)) ?_
  have g := at_of h.2 a b l.length 0 (by omega) (by omega)
  have r := atB_range a b l 0
  rw [List.drop_zero] at g
  rw [← g]
  by_cases h2 : (atB a b l 0).2 = true
  · refine Ev_all_k fun k => ?_
    have := r.2.2 h2
    rw [if_pos h2, if_pos h2, if_pos (by show (0 : Int) ≤ ((atB a b l 0).1 : Int); omega), if_pos (by show ((atB a b l 0).1 : Int) < _; omega), rdB]
  · refine Ev_all_k fun k => ?_
    rw [if_neg h2, if_neg h2]
open Classical in
/-- BalOf's answer. -/
noncomputable def balOf (l : List SB) (a b : Int) : Int := if OkB l then ofB a b l else 0
theorem balOf_s (l : List SB) (a b : Int) (hm : l.length ≤ 9223372036854775807) : Ev (fun k => spec_BalOf.f k l a b) (balOf l a b) := by
  unfold spec_BalOf.f balOf
  refine Ev_bind (balsOk_s l) ?_
  by_cases h : OkB l
  · rw [if_pos h]
    exact Ev.congr (fun k => by rw [if_pos ((okB_iff l).2 h)]) (Ev_bind (of_s l a b hm) (Ev_all_k fun k => rfl))
  · rw [if_neg h]
    exact Ev_all_k fun k => by rw [if_neg (by rw [okB_no h]; decide)]
theorem balOf_i (l : List SB) (a b : Int) (hm : l.length ≤ 9223372036854775807) : Ev (fun k => impl_BalOf.f k l a b) (balOf l a b) := by
  unfold impl_BalOf.f balOf
  refine Ev_bind (balsOk_i l hm) ?_
  by_cases h : OkB l
  · rw [if_pos h]
    exact Ev.congr (fun k => by rw [if_pos ((okB_iff l).2 h)]) (Ev_bind (of_i h a b) (Ev_all_k fun k => rfl))
  · rw [if_neg h]
    exact Ev_all_k fun k => by rw [if_neg (by rw [okB_no h]; decide)]

/-- All amounts of an instrument together. -/
def sumB (a : Int) : List SB → Int
  | [] => 0
  | x :: l => (if x.f1 = a then x.f2 else 0) + sumB a l
theorem sumB_drop (a : Int) (l : List SB) (i : Nat) (hi : i < l.length) : sumB a (l.drop i) = (if (l.getD i z58).f1 = a then (l.getD i z58).f2 else 0) + sumB a (l.drop (i + 1)) := by
  rw [drop_getD z58 l i hi]; rfl
theorem sumB_bound {l : List SB} (h : ∀ j, j < l.length → GoodB l j) (a : Int) : ∀ (d i : Nat), l.length - i = d → i ≤ l.length → -(1000000000000000 * (l.length - i : Int)) ≤ sumB a (l.drop i) ∧ sumB a (l.drop i) ≤ 1000000000000000 * (l.length - i : Int) := by
  intro d
  induction d with
  | zero =>
    intro i hd hi
    obtain rfl : i = l.length := by omega
    rw [List.drop_length]
    unfold sumB
    omega
  | succ d ih =>
    intro i hd hi
    rw [sumB_drop a l i (by omega)]
    have := ih (i + 1) (by omega) (by omega)
    have g : Amt _ := (h i (by omega)).2.2.1
    unfold Amt at g
    split <;> omega
def told (n : Int) (ok : Bool) : Int × Bool := if ok = true ∧ Amt n then (n, true) else (0, false)
theorem told_s (n : Int) (ok : Bool) : spec_l1Told.f n ok = some (told n ok) := by
  unfold spec_l1Told.f told
  rw [amt_s, Option.bind_some]
  cases ok with
  | true =>
    rw [if_pos rfl]
    by_cases h : Amt n
    · rw [if_pos (decide_eq_true h), if_pos ⟨rfl, h⟩]
    · rw [if_neg (by rw [decide_eq_false h]; decide), if_neg fun g => h g.2]
  | false => rw [if_neg (by decide), if_neg fun g => absurd g.1 (by decide)]
theorem told_i (n : Int) : impl_amount.f n = some (told n true) := by
  unfold impl_amount.f told
  rw [amt_i, Option.bind_some]
  by_cases h : Amt n
  · rw [if_pos (decide_eq_true h), if_pos ⟨rfl, h⟩]
  · rw [if_neg (by rw [decide_eq_false h]; decide), if_neg fun g => h g.2]
theorem sum_i {l : List SB} (h : OkB l) (a : Int) : Ev (fun k => impl_balsSum.f k l a) (sumB a l) := by
  unfold impl_balsSum.f
  have h1 := h.1
  have hb := fun i hi => sumB_bound h.2 a (l.length - i) i rfl hi
  have h' := Ev_goes (fun k s i => impl_balsSum.l0 k a s l (l.length : Int) i) l.length (fun i s => s + sumB a (l.drop i)) (fun i s => s + sumB a (l.drop i) = sumB a l)
    (fun s hs => Ev_one fun k => by
      simp only [impl_balsSum.l0]
      rw [if_neg (by omega), List.drop_length]
      show some s = some (s + 0)
      rw [Int.add_zero])
    (fun i s hi hs => by
      have e := sumB_drop a l i hi
      have b0 := hb 0 (by omega)
      have b1 := hb (i + 1) (by omega)
      rw [List.drop_zero] at b0
      refine .inr ⟨s + (if (l.getD i z58).f1 = a then (l.getD i z58).f2 else 0), by omega, by omega, fun k => ?_⟩
      show impl_balsSum.l0 (k + 1) a s l (l.length : Int) (i : Int) = _
      simp only [impl_balsSum.l0, rdB]
      rw [if_pos (by omega), if_pos (by omega), if_pos (by omega), w_succ hi (by omega)]
      by_cases h2 : (l.getD i z58).f1 = a
      · rw [if_pos h2] at e
        rw [if_pos h2, if_pos h2, w64_in _ (by omega) (by omega)]
      · rw [if_neg h2, if_neg h2, Int.add_zero]) l.length 0 0 (by omega) (by omega) (by rw [List.drop_zero]; omega)
  rw [List.drop_zero, Int.zero_add] at h'
  exact h'
/-- BalsSum's answer. -/
noncomputable def balsSum (l : List SB) (a : Int) : Int × Bool := if okB l = true then told (sumB a l) true else (0, false)
theorem balsSum_i (l : List SB) (a : Int) (hm : l.length ≤ 9223372036854775807) : Ev (fun k => impl_BalsSum.f k l a) (balsSum l a) := by
  unfold impl_BalsSum.f balsSum
  refine Ev_bind (balsOk_i l hm) ?_
  by_cases h : okB l = true
  · rw [if_pos h]
    exact Ev.congr (fun k => by rw [if_pos h]) (Ev_bind (sum_i ((okB_iff l).1 h) a) (Ev_all_k fun k => by rw [told_i]; rfl))
  · rw [if_neg h]
    exact Ev_all_k fun k => by rw [if_neg h]
theorem balsSum_s (l : List SB) (a : Int) : Ev (fun k => spec_BalsSum.f k l a) (balsSum l a) := by
  unfold spec_BalsSum.f balsSum
  have last : ∀ s : Int, (okB l = false → s = 0) → Ev (fun k => (spec_BalsOk.f k l).bind fun t214 => ((spec_l1Told.f s t214).bind fun bt215 => (some (bt215.1, bt215.2)))) (if okB l = true then told s true else (0, false)) := fun s _ => by
    refine Ev_bind (balsOk_s l) (Ev_all_k fun k => ?_)
    rw [told_s]
    cases okB l with
    | true => rfl
    | false => rw [if_neg (by decide)]; unfold told; rw [if_neg fun g => absurd g.1 (by decide)]; rfl
  by_cases h : OkB l
  · have h1 := h.1
    have ht := (okB_iff l).2 h
    have hb := fun i hi => sumB_bound h.2 a (l.length - i) i rfl hi
    have h' := Ev_goes' (fun k s i => spec_BalsSum.l0 k l a s i) l.length (fun i s => if okB l = true then told (s + sumB a (l.drop i)) true else (0, false)) (fun i s => s + sumB a (l.drop i) = sumB a l)
      (fun s hs => by
        refine Ev.step (f := fun k => spec_BalsSum.j1 k l a s (l.length : Int) false) (fun k => by simp only [spec_BalsSum.l0]; rw [if_neg (by omega)]) ?_
        refine Ev.step (fun k => by simp only [spec_BalsSum.j1]; rw [if_neg (by decide)]) ?_
        have := last s (fun g => by rw [ht] at g; cases g)
        rw [List.drop_length]
        show Ev _ (if okB l = true then told (s + 0) true else (0, false))
        rw [Int.add_zero]
        exact this)
      (fun i s hi hs => by
        have e := sumB_drop a l i hi
        have b0 := hb 0 (by omega)
        have b1 := hb (i + 1) (by omega)
        rw [List.drop_zero] at b0
        refine .inr ⟨s + (if (l.getD i z58).f1 = a then (l.getD i z58).f2 else 0), by omega, by
          show (if okB l = true then told (s + (if (l.getD i z58).f1 = a then (l.getD i z58).f2 else 0) + sumB a (l.drop (i + 1))) true else (0, false)) = if okB l = true then told (s + sumB a (l.drop i)) true else (0, false)
          rw [e, Int.add_assoc], fun r hr => ?_⟩
        refine Ev.step (f := fun k => (spec_BalsOk.f k l).bind fun t211 => spec_BalsSum.j1 k l a s (i : Int) t211) (fun k => by simp only [spec_BalsSum.l0]; rw [if_pos (by omega)]) (Ev_bind (balsOk_s l) ?_)
        rw [ht]
        refine Ev.step (fun k => ?_) hr
        show spec_BalsSum.j1 (k + 1) l a s (i : Int) true = _
        simp only [spec_BalsSum.j1, rdB]
        rw [if_pos trivial, if_pos (by omega), if_pos (by omega), w_succ hi (by omega)]
        by_cases h2 : (l.getD i z58).f1 = a
        · rw [if_pos h2] at e
          rw [if_pos h2, if_pos h2, w64_in _ (by omega) (by omega)]
        · rw [if_neg h2, if_neg h2, Int.add_zero]) l.length 0 0 (by omega) (by omega) (by rw [List.drop_zero]; omega)
    rw [List.drop_zero, Int.zero_add] at h'
    exact h'
  · have hf := okB_no h
    have hr : (if okB l = true then told (sumB a l) true else (0, false)) = (if okB l = true then told 0 true else (0, false)) := by rw [hf]; rfl
    rw [hr]
    by_cases h0 : (0 : Int) < (l.length : Int)
    · refine Ev.step (f := fun k => (spec_BalsOk.f k l).bind fun t211 => spec_BalsSum.j1 k l a 0 0 t211) (fun k => by simp only [spec_BalsSum.l0]; rw [if_pos h0]) (Ev_bind (balsOk_s l) ?_)
      have hz := last 0 fun _ => rfl
      rw [hf] at hz ⊢
      refine Ev.step (fun k => by simp only [spec_BalsSum.j1]; rw [if_neg (by decide)]) ?_
      exact hz
    · refine Ev.step (f := fun k => spec_BalsSum.j1 k l a 0 0 false) (fun k => by simp only [spec_BalsSum.l0]; rw [if_neg h0]) ?_
      refine Ev.step (fun k => by simp only [spec_BalsSum.j1]; rw [if_neg (by decide)]) ?_
      exact last 0 fun _ => rfl
end Go.Proofs.Ytpcjpjjkaplebaa.B2
