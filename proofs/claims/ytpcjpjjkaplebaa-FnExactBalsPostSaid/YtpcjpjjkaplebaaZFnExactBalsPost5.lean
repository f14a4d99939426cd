/- BalsPost of the program and of the reference agree at every list of balances, of legs and of accounts, and what is told is the caller's own; no condition but that they are of ints. -/
import Derived.Test.YtpcjpjjkaplebaaZFnExactBalsPost4
import Derived.Deep.Slices
import Derived.Deep.Fields
import Derived.ChangeSame
import Derived.ChangeShapes
import Derived.WideShapes
import Derived.SizedLaws
import Derived.ChangeSlices
import Derived.Test.YtpcjpjjkaplebaaRows
import Derived.WalkKit
import Derived.ProofKit
import Derived.OpenShut
import Derived.ShutString
import Derived.ChangeOld
import Derived.Below
import Derived.Carry
namespace Go.Proofs.Ytpcjpjjkaplebaa.P
end Go.Proofs.Ytpcjpjjkaplebaa.P
namespace Go.Proofs.Ytpcjpjjkaplebaa.EV
end Go.Proofs.Ytpcjpjjkaplebaa.EV
namespace Go.Proofs.Ytpcjpjjkaplebaa.I1
end Go.Proofs.Ytpcjpjjkaplebaa.I1
namespace Go.Proofs.Ytpcjpjjkaplebaa.N1
end Go.Proofs.Ytpcjpjjkaplebaa.N1
namespace Go.Proofs.Ytpcjpjjkaplebaa.B1
end Go.Proofs.Ytpcjpjjkaplebaa.B1
namespace Go.Proofs.Ytpcjpjjkaplebaa.B2
end Go.Proofs.Ytpcjpjjkaplebaa.B2
namespace Go.Proofs.Ytpcjpjjkaplebaa.B3
end Go.Proofs.Ytpcjpjjkaplebaa.B3
namespace Go.Proofs.Ytpcjpjjkaplebaa.B4
end Go.Proofs.Ytpcjpjjkaplebaa.B4
namespace Go.Proofs.Ytpcjpjjkaplebaa.G1
end Go.Proofs.Ytpcjpjjkaplebaa.G1
namespace Go.Proofs.Ytpcjpjjkaplebaa.B5
end Go.Proofs.Ytpcjpjjkaplebaa.B5
namespace Go.Proofs.Ytpcjpjjkaplebaa.B6
end Go.Proofs.Ytpcjpjjkaplebaa.B6
namespace Go.Proofs.Ytpcjpjjkaplebaa.T1
end Go.Proofs.Ytpcjpjjkaplebaa.T1
namespace Go.Proofs.Ytpcjpjjkaplebaa.TI
end Go.Proofs.Ytpcjpjjkaplebaa.TI
namespace Go.Proofs.Ytpcjpjjkaplebaa.M1
end Go.Proofs.Ytpcjpjjkaplebaa.M1
namespace Go.Proofs.Ytpcjpjjkaplebaa.B5
open Go Go.RowKit Go.Proofs.Ytpcjpjjkaplebaa.P Go.Proofs.YtpcjpjjkaplebaaW.PrintWords Go.Proofs.YtpcjpjjkaplebaaW.PrintLast Go.Proofs.Ytpcjpjjkaplebaa.EV Go.Proofs.Ytpcjpjjkaplebaa.I1 Go.Proofs.Ytpcjpjjkaplebaa.N1 Go.Proofs.Ytpcjpjjkaplebaa.B1 Go.Proofs.Ytpcjpjjkaplebaa.B2 Go.Proofs.Ytpcjpjjkaplebaa.B3 Go.Proofs.Ytpcjpjjkaplebaa.B4 Go.Proofs.Ytpcjpjjkaplebaa.G1
theorem rdi (l : List Int) (i : Nat) : rd l (i : Int) = l.getD i 0 := by unfold rd; rw [Int.toNat_natCast]
def hasI (l : List Int) (x : Int) : Bool := l.any (fun y => y == x)
theorem hasI_drop (l : List Int) (x : Int) (i : Nat) (hi : i < l.length) : hasI (l.drop i) x = ((l.getD i 0 == x) || hasI (l.drop (i + 1)) x) := by
  rw [drop_getD 0 l i hi]; rfl
theorem has_s (l : List Int) (x : Int) (hm : l.length ≤ 9223372036854775807) : Ev (fun k => spec_l4Has.f k l x) (hasI l x) := by
  unfold spec_l4Has.f
  have h := Ev_goes (fun k (_ : Unit) i => spec_l4Has.l0 k l x i) l.length (fun i _ => hasI (l.drop i) x) (fun _ _ => True)
    (fun _ _ => Ev_one fun k => by
      simp only [spec_l4Has.l0]
      rw [if_neg (by omega), List.drop_length]
      rfl)
    (fun i _ hi _ => by
      by_cases h : l.getD i 0 = x
      · refine .inl (Ev_one fun k => ?_)
        simp only [spec_l4Has.l0, rdi]
        rw [if_pos (by omega), if_pos (by omega), if_pos h, hasI_drop l x i hi, beq_iff_eq.2 h]
        rfl
      · refine .inr ⟨(), trivial, by show hasI (l.drop (i + 1)) x = hasI (l.drop i) x; rw [hasI_drop l x i hi, beq_eq_false_iff_ne.2 h]; rfl, fun k => ?_⟩
        show spec_l4Has.l0 (k + 1) l x (i : Int) = _
        simp only [spec_l4Has.l0, rdi]
        rw [if_pos (by omega), if_pos (by omega), if_neg h, w_succ hi (by omega)]) l.length 0 () (by omega) (by omega) trivial
  rw [List.drop_zero] at h
  exact h
theorem has_i (l : List Int) (x : Int) (hm : l.length ≤ 9223372036854775807) : Ev (fun k => slices_Contains_int_int.f k l x) (hasI l x) := by
  unfold slices_Contains_int_int.f slices_Index_int_int.f
  have h : ∃ r : Int, Ev (fun k => slices_Index_int_int.l0 k l x (l.length : Int) 0) r ∧ decide (r ≥ 0) = hasI l x := by
    have key : ∀ (d i : Nat), l.length - i = d → i ≤ l.length → ∃ r : Int, Ev (fun k => slices_Index_int_int.l0 k l x (l.length : Int) (i : Int)) r ∧ decide (r ≥ 0) = hasI (l.drop i) x := by
      intro d
      induction d with
      | zero =>
        intro i hd hi
        obtain rfl : i = l.length := by omega
        refine ⟨-1, Ev_one fun k => ?_, by rw [List.drop_length]; rfl⟩
        simp only [slices_Index_int_int.l0]
        rw [if_neg (by omega)]
      | succ d ih =>
        intro i hd hi
        have hi2 : i < l.length := by omega
        by_cases h : l.getD i 0 = x
        · refine ⟨(i : Int), Ev_one fun k => ?_, ?_⟩
          · simp only [slices_Index_int_int.l0, rdi]
            rw [if_pos (by omega), if_pos (by omega), if_pos (by omega), if_pos h.symm]
          · rw [hasI_drop l x i hi2, beq_iff_eq.2 h, decide_eq_true (by omega)]
            rfl
        · obtain ⟨r, hr, e⟩ := ih (i + 1) (by omega) (by omega)
          refine ⟨r, Ev.step (fun k => ?_) hr, ?_⟩
          · simp only [slices_Index_int_int.l0, rdi]
            rw [if_pos (by omega), if_pos (by omega), if_pos (by omega), if_neg (fun g => h g.symm), w_succ hi2 (by omega)]
          · rw [e, hasI_drop l x i hi2, beq_eq_false_iff_ne.2 h]
            rfl
    have := key l.length 0 (by omega) (by omega)
    rw [List.drop_zero] at this
    exact this
  obtain ⟨r, hr, e⟩ := h
  refine Ev_bind hr ?_
  rw [e]
  exact Ev.now _
theorem of_i2 {l : List SB} (h : SortB l) (a b : Int) (hm : l.length ≤ 9223372036854775807) : Ev (fun k => impl_balOf.f k l a b) (ofB a b l) := by
  unfold impl_balOf.f
  refine Ev_bind (at_i l a b hm) ?_
  have g := at_of (sortB_good h) a b l.length 0 (by omega) (by omega)
  have r := atB_range a b l 0
  rw [List.drop_zero] at g
  rw [← g]
  by_cases h2 : (atB a b l 0).2 = true
  · refine Ev_all_k fun k => ?_
    have := r.2.2 h2
    rw [if_pos h2, if_pos h2, if_pos (by show (0 : Int) ≤ ((atB a b l 0).1 : Int); omega), if_pos (by show ((atB a b l 0).1 : Int) < _; omega), rdB]
  · refine Ev_all_k fun k => ?_
    rw [if_neg h2, if_neg h2]
theorem ofB_amt {l : List SB} (h : SortB l) (a b : Int) : Amt (ofB a b l) := by
  by_cases he : ∃ x ∈ l, x.f0 = a ∧ x.f1 = b
  · obtain ⟨x, hx, rfl, rfl⟩ := he
    rw [ofB_mem h.2 x hx]
    exact (h.1 x hx).2.2.1
  · rw [ofB_none a b l fun x hx g => he ⟨x, hx, g⟩]
    unfold Amt
    omega
def newB (l : List SB) (x : SL) : Int := ofB x.f0 x.f1 l + x.f2
def goP : List SB → List SL → Option (List SB)
  | l, [] => some l
  | l, x :: r => if Amt (newB l x) then goP (putB l x.f0 x.f1 (newB l x)) r else none
def shortB (o : List SB) (short : List Int) (x : SL) : Bool := !hasI short x.f0 && decide (ofB x.f0 x.f1 o < 0)
def endB (l o : List SB) (legs : List SL) (short : List Int) : List SB × Int := if legs.any (shortB o short) = true then (l, 3) else (if o.length ≤ 160 then (o, 0) else (l, 5))
def mainB (l : List SB) (legs : List SL) (short : List Int) : List SB × Int := match goP l legs with
  | none => (l, 4)
  | some o => endB l o legs short
noncomputable def postB (l : List SB) (legs : List SL) (short : List Int) : List SB × Int :=
  if okB l = true ∧ rightL legs = true ∧ short.length ≤ 20 then (if okL legs = true then mainB l legs short else (l, 2)) else ([], 1)
theorem leg_at {legs : List SL} (h : RightL legs) (i : Nat) (hi : i < legs.length) : GoodL (legs.getD i z61) := h.at i hi
theorem end_i {l o : List SB} {legs : List SL} {short : List Int} (ho : SortB o) (hol : o.length ≤ 1048576) (hl : legs.length ≤ 160) (hs : short.length ≤ 20) : Ev (fun k => impl_BalsPost.l1 k short l o legs (legs.length : Int) 0) (endB l o legs short) := by
  have h := Ev_goes' (fun k (_ : Unit) i => impl_BalsPost.l1 k short l o legs (legs.length : Int) i) legs.length (fun i _ => if (legs.drop i).any (shortB o short) = true then (l, 3) else (if o.length ≤ 160 then (o, 0) else (l, 5))) (fun _ _ => True)
    (fun _ _ => Ev_one fun k => by
      simp only [impl_BalsPost.l1]
      rw [if_neg (by omega), List.drop_length]
      show _ = some (if o.length ≤ 160 then (o, 0) else (l, 5))
      by_cases h : o.length ≤ 160
      · rw [if_neg (by omega), if_pos h]
      · rw [if_pos (by omega), if_neg h])
    (fun i _ hi _ => by
      have e : ∀ k, impl_BalsPost.l1 (k + 1) short l o legs (legs.length : Int) (i : Int) = (slices_Contains_int_int.f k short (legs.getD i z61).f0).bind fun t => if t = true then impl_BalsPost.l1 k short l o legs (legs.length : Int) ((i + 1 : Nat) : Int) else (impl_balOf.f k o (legs.getD i z61).f0 (legs.getD i z61).f1).bind fun t2 => if t2 < 0 then some (l, 3) else impl_BalsPost.l1 k short l o legs (legs.length : Int) ((i + 1 : Nat) : Int) := by
        intro k
        simp only [impl_BalsPost.l1, rdL]
        rw [if_pos (by omega), if_pos (by omega), if_pos (by omega), w_succ hi (by omega)]
      have hd : (legs.drop i).any (shortB o short) = (shortB o short (legs.getD i z61) || (legs.drop (i + 1)).any (shortB o short)) := by rw [drop_getD z61 legs i hi]; rfl
      cases hc : hasI short (legs.getD i z61).f0 with
      | true =>
        have hsb : shortB o short (legs.getD i z61) = false := by unfold shortB; rw [hc]; rfl
        refine .inr ⟨(), trivial, by rw [hd, hsb, Bool.false_or], fun r hr => ?_⟩
        refine Ev.step e (Ev_bind (has_i short _ (by omega)) ?_)
        rw [hc]
        exact Ev.congr (fun k => if_pos rfl) hr
      | false =>
        by_cases h0 : ofB (legs.getD i z61).f0 (legs.getD i z61).f1 o < 0
        · have hsb : shortB o short (legs.getD i z61) = true := by unfold shortB; rw [hc, decide_eq_true h0]; rfl
          refine .inl ?_
          rw [hd, hsb, Bool.true_or, if_pos rfl]
          refine Ev.step e (Ev_bind (has_i short _ (by omega)) ?_)
          rw [hc]
          refine Ev.congr (fun k => if_neg (by decide)) ?_
          exact Ev_bind (of_i2 ho _ _ (by omega)) (Ev_all_k fun k => if_pos h0)
        · have hsb : shortB o short (legs.getD i z61) = false := by unfold shortB; rw [hc, decide_eq_false h0]; rfl
          refine .inr ⟨(), trivial, by rw [hd, hsb, Bool.false_or], fun r hr => ?_⟩
          refine Ev.step e (Ev_bind (has_i short _ (by omega)) ?_)
          rw [hc]
          refine Ev.congr (fun k => if_neg (by decide)) ?_
          exact Ev_bind (of_i2 ho _ _ (by omega)) (Ev.congr (fun k => if_neg h0) hr)) legs.length 0 () (by omega) (by omega) trivial
  rw [List.drop_zero] at h
  exact h
theorem clone_s (x : List SB) (hx : x.length ≤ 1048577) : ([] : List SB).length + x.length < 5864062014805 := by simp; omega
theorem end_s {l o : List SB} {legs : List SL} {short : List Int} (hl1 : l.length ≤ 1048576) (hol : o.length ≤ 1048576) (hl : legs.length ≤ 160) (hs : short.length ≤ 20) : Ev (fun k => spec_BalsPost.l1 k l legs short o 0) (endB l o legs short) := by
  have h := Ev_goes' (fun k (_ : Unit) i => spec_BalsPost.l1 k l legs short o i) legs.length (fun i _ => if (legs.drop i).any (shortB o short) = true then (l, 3) else (if o.length ≤ 160 then (o, 0) else (l, 5))) (fun _ _ => True)
    (fun _ _ => Ev_one fun k => by
      simp only [spec_BalsPost.l1, Option.bind_some]
      rw [if_neg (by omega), List.drop_length]
      show _ = some (if o.length ≤ 160 then (o, 0) else (l, 5))
      by_cases h : o.length ≤ 160
      · rw [if_neg (by omega), if_pos h]
      · rw [if_pos (by omega), if_pos (clone_s l (by omega)), List.nil_append, if_neg h])
    (fun i _ hi _ => by
      have e : ∀ k, spec_BalsPost.l1 (k + 1) l legs short o (i : Int) = (spec_l4Of.f k o (legs.getD i z61).f0 (legs.getD i z61).f1).bind fun t2 => if t2 < 0 then (spec_l4Has.f k short (legs.getD i z61).f0).bind (fun t => if t = true then spec_BalsPost.l1 k l legs short o ((i + 1 : Nat) : Int) else some (l, 3)) else spec_BalsPost.l1 k l legs short o ((i + 1 : Nat) : Int) := by
        intro k
        simp only [spec_BalsPost.l1, rdL, Option.bind_some]
        rw [if_pos (by omega), if_pos (by omega), w_succ hi (by omega)]
        simp only [if_pos (clone_s l (by omega)), List.nil_append]
      have hd : (legs.drop i).any (shortB o short) = (shortB o short (legs.getD i z61) || (legs.drop (i + 1)).any (shortB o short)) := by rw [drop_getD z61 legs i hi]; rfl
      by_cases h0 : ofB (legs.getD i z61).f0 (legs.getD i z61).f1 o < 0
      · cases hc : hasI short (legs.getD i z61).f0 with
        | true =>
          have hsb : shortB o short (legs.getD i z61) = false := by unfold shortB; rw [hc]; rfl
          refine .inr ⟨(), trivial, by rw [hd, hsb, Bool.false_or], fun r hr => ?_⟩
          refine Ev.step e (Ev_bind (of_s o _ _ (by omega)) (Ev.congr (fun k => if_pos h0) (Ev_bind (has_s short _ (by omega)) ?_)))
          rw [hc]
          exact Ev.congr (fun k => if_pos rfl) hr
        | false =>
          have hsb : shortB o short (legs.getD i z61) = true := by unfold shortB; rw [hc, decide_eq_true h0]; rfl
          refine .inl ?_
          rw [hd, hsb, Bool.true_or, if_pos rfl]
          refine Ev.step e (Ev_bind (of_s o _ _ (by omega)) (Ev.congr (fun k => if_pos h0) (Ev_bind (has_s short _ (by omega)) ?_)))
          rw [hc]
          exact Ev_all_k fun k => rfl
      · have hsb : shortB o short (legs.getD i z61) = false := by unfold shortB; rw [decide_eq_false h0, Bool.and_false]
        refine .inr ⟨(), trivial, by rw [hd, hsb, Bool.false_or], fun r hr => ?_⟩
        exact Ev.step e (Ev_bind (of_s o _ _ (by omega)) (Ev.congr (fun k => if_neg h0) hr))) legs.length 0 () (by omega) (by omega) trivial
  rw [List.drop_zero] at h
  exact h
theorem addIn_s (a b : Int) (ha : Amt a) (hb : Amt b) : spec_AddIn.f a b = some (told (a + b) true) := by
  unfold spec_AddIn.f
  have e : wrap64 (a + b) = a + b := by unfold Amt at ha hb; exact w64_in _ (by omega) (by omega)
  rw [amt_s, Option.bind_some, if_pos (decide_eq_true ha), amt_s, Option.bind_some, decide_eq_true hb, e, told_s]
  rfl
theorem go_i {l : List SB} {legs : List SL} {short : List Int} (h : OkB l) (hr : RightL legs) (hs : short.length ≤ 20) : Ev (fun k => impl_BalsPost.l0 k legs short l l legs (legs.length : Int) 0) (mainB l legs short) := by
  have hl := hr.1
  have hl1 := h.1
  have hsl := ((okB_sort l).1 h).2
  refine Ev_goes' (fun k (s : List SB) i => impl_BalsPost.l0 k legs short l s legs (legs.length : Int) i) legs.length (fun _ _ => mainB l legs short) (fun i s => goP s (legs.drop i) = goP l legs ∧ SortB s ∧ s.length ≤ 160 + i)
    (fun s hi => ?_) (fun i s hi hv => ?_) legs.length 0 l (by omega) (by omega) ⟨by rw [List.drop_zero], hsl, by omega⟩
  · obtain ⟨h1, h2, h3⟩ := hi
    rw [List.drop_length] at h1
    have hm : mainB l legs short = endB l s legs short := by unfold mainB; rw [← h1]; rfl
    rw [hm]
    refine Ev.step (fun k => ?_) (end_i h2 (by omega) hl hs)
    simp only [impl_BalsPost.l0]
    rw [if_neg (by omega)]
  · obtain ⟨h1, h2, h3⟩ := hv
    have gx := leg_at hr i hi
    have ga := ofB_amt h2 (legs.getD i z61).f0 (legs.getD i z61).f1
    have gb := gx.2.2
    have hw : wrap64 (ofB (legs.getD i z61).f0 (legs.getD i z61).f1 s + (legs.getD i z61).f2) = newB s (legs.getD i z61) := by
      unfold newB
      unfold Amt at ga gb
      exact w64_in _ (by omega) (by omega)
    rw [drop_getD z61 legs i hi] at h1
    have e : ∀ k, impl_BalsPost.l0 (k + 1) legs short l s legs (legs.length : Int) (i : Int) = (impl_balOf.f k s (legs.getD i z61).f0 (legs.getD i z61).f1).bind fun t => (impl_AmountOk.f (wrap64 (t + (legs.getD i z61).f2))).bind fun t2 => if t2 = true then (impl_withBal.f k s (legs.getD i z61).f0 (legs.getD i z61).f1 (wrap64 (t + (legs.getD i z61).f2))).bind (fun t3 => impl_BalsPost.l0 k legs short l t3 legs (legs.length : Int) ((i + 1 : Nat) : Int)) else some (l, 4) := by
      intro k
      simp only [impl_BalsPost.l0, rdL]
      rw [if_pos (by omega), if_pos (by omega), if_pos (by omega), w_succ hi (by omega)]
    by_cases hA : Amt (newB s (legs.getD i z61))
    · refine .inr ⟨putB s (legs.getD i z61).f0 (legs.getD i z61).f1 (newB s (legs.getD i z61)), ⟨?_, putB_sort h2 gx.1 gx.2.1 hA, ?_⟩, rfl, fun r hq => ?_⟩
      · rw [← h1]
        conv => rhs; unfold goP
        rw [if_pos hA]
      · have := putB_len s (legs.getD i z61).f0 (legs.getD i z61).f1 (newB s (legs.getD i z61))
        omega
      · refine Ev.step e (Ev_bind (of_i2 h2 _ _ (by omega)) ?_)
        rw [hw]
        refine Ev.congr (fun k => by rw [amt_i, Option.bind_some, if_pos (decide_eq_true hA)]) ?_
        exact Ev_bind (put_i s _ _ _ (by omega)) hq
    · refine .inl ?_
      have hm : mainB l legs short = (l, 4) := by
        unfold mainB
        rw [← h1]
        unfold goP
        rw [if_neg hA]
      rw [hm]
      refine Ev.step e (Ev_bind (of_i2 h2 _ _ (by omega)) ?_)
      rw [hw]
      exact Ev_all_k fun k => by rw [amt_i, Option.bind_some, if_neg (by rw [decide_eq_false hA]; decide)]
theorem go_s {l : List SB} {legs : List SL} {short : List Int} (h : OkB l) (hr : RightL legs) (hs : short.length ≤ 20) : Ev (fun k => spec_BalsPost.l0 k l legs short l 0) (mainB l legs short) := by
  have hl := hr.1
  have hl1 := h.1
  have hsl := ((okB_sort l).1 h).2
  refine Ev_goes' (fun k (s : List SB) i => spec_BalsPost.l0 k l legs short s i) legs.length (fun _ _ => mainB l legs short) (fun i s => goP s (legs.drop i) = goP l legs ∧ SortB s ∧ s.length ≤ 160 + i)
    (fun s hi => ?_) (fun i s hi hv => ?_) legs.length 0 l (by omega) (by omega) ⟨by rw [List.drop_zero], hsl, by omega⟩
  · obtain ⟨h1, h2, h3⟩ := hi
    rw [List.drop_length] at h1
    have hm : mainB l legs short = endB l s legs short := by unfold mainB; rw [← h1]; rfl
    rw [hm]
    refine Ev.step (fun k => ?_) (end_s (by omega) (by omega) hl hs)
    simp only [spec_BalsPost.l0]
    rw [if_neg (by omega)]
  · obtain ⟨h1, h2, h3⟩ := hv
    have gx := leg_at hr i hi
    have ga := ofB_amt h2 (legs.getD i z61).f0 (legs.getD i z61).f1
    have gb := gx.2.2
    rw [drop_getD z61 legs i hi] at h1
    have e : ∀ k, spec_BalsPost.l0 (k + 1) l legs short s (i : Int) = (spec_l4Of.f k s (legs.getD i z61).f0 (legs.getD i z61).f1).bind fun t => (spec_AddIn.f t (legs.getD i z61).f2).bind fun t2 => if t2.2 = true then (spec_l4Put.f k s (legs.getD i z61).f0 (legs.getD i z61).f1 t2.1).bind (fun t3 => spec_BalsPost.l0 k l legs short t3 ((i + 1 : Nat) : Int)) else some (l, 4) := by
      intro k
      simp only [spec_BalsPost.l0, rdL, Option.bind_some]
      rw [if_pos (by omega), if_pos (by omega), w_succ hi (by omega)]
      simp only [if_pos (clone_s l (by omega)), List.nil_append]
    by_cases hA : Amt (newB s (legs.getD i z61))
    · refine .inr ⟨putB s (legs.getD i z61).f0 (legs.getD i z61).f1 (newB s (legs.getD i z61)), ⟨?_, putB_sort h2 gx.1 gx.2.1 hA, ?_⟩, rfl, fun r hq => ?_⟩
      · rw [← h1]
        conv => rhs; unfold goP
        rw [if_pos hA]
      · have := putB_len s (legs.getD i z61).f0 (legs.getD i z61).f1 (newB s (legs.getD i z61))
        omega
      · refine Ev.step e (Ev_bind (of_s s _ _ (by omega)) ?_)
        have ht : told (ofB (legs.getD i z61).f0 (legs.getD i z61).f1 s + (legs.getD i z61).f2) true = (newB s (legs.getD i z61), true) := if_pos ⟨rfl, hA⟩
        refine Ev.congr (fun k => by rw [addIn_s _ _ ga gb, Option.bind_some, ht, if_pos rfl]) ?_
        exact Ev_bind (put_s h2 _ _ _ (by omega)) hq
    · refine .inl ?_
      have hm : mainB l legs short = (l, 4) := by
        unfold mainB
        rw [← h1]
        unfold goP
        rw [if_neg hA]
      rw [hm]
      refine Ev.step e (Ev_bind (of_s s _ _ (by omega)) ?_)
      have ht : told (ofB (legs.getD i z61).f0 (legs.getD i z61).f1 s + (legs.getD i z61).f2) true = (0, false) := if_neg fun g => hA g.2
      exact Ev_all_k fun k => by rw [addIn_s _ _ ga gb, Option.bind_some, ht, if_neg (by decide)]
theorem post_i (l : List SB) (legs : List SL) (short : List Int) (hm : l.length ≤ 1048576) (hs : short.length ≤ 9223372036854775807) : Ev (fun k => impl_BalsPost.f k l legs short) (postB l legs short) := by
  unfold impl_BalsPost.f
  have no : ¬ (okB l = true ∧ rightL legs = true ∧ short.length ≤ 20) → Ev (fun k => impl_BalsPost.j0 k l legs short true) (postB l legs short) := fun h => by
    have hp : postB l legs short = ([], 1) := if_neg h
    rw [hp]
    exact Ev_one fun k => by simp only [impl_BalsPost.j0]; rw [if_pos trivial]
  refine Ev_bind (balsOk_i l (by omega)) ?_
  by_cases h1 : okB l = true
  · refine Ev.congr (fun k => by rw [if_pos h1, right_i, Option.bind_some]) ?_
    by_cases h2 : rightL legs = true
    · refine Ev.congr (fun k => by rw [if_pos h2]) ?_
      by_cases h3 : short.length ≤ 20
      · rw [decide_eq_false (show ¬ (short.length : Int) > 20 by omega)]
        have ho := (okB_iff l).1 h1
        have hr := (rightL_iff legs).1 h2
        have hl1 := ho.1
        have hp : postB l legs short = if okL legs = true then mainB l legs short else (l, 2) := if_pos ⟨h1, h2, h3⟩
        rw [hp]
        refine Ev.step (fun k => by simp only [impl_BalsPost.j0]; rw [if_neg (by decide), clone_i l (by omega), Option.bind_some]) ?_
        refine Ev_bind (legsOk_i legs) ?_
        by_cases h4 : okL legs = true
        · rw [if_pos h4]
          exact Ev.congr (fun k => by rw [if_pos h4, Option.bind_some]) (go_i ho hr h3)
        · rw [if_neg h4]
          exact Ev_all_k fun k => if_neg h4
      · rw [decide_eq_true (show (short.length : Int) > 20 by omega)]
        exact no fun g => h3 g.2.2
    · exact Ev.congr (fun k => if_neg h2) (no fun g => h2 g.2.1)
  · exact Ev.congr (fun k => if_neg h1) (no fun g => h1 g.1)
theorem post_s (l : List SB) (legs : List SL) (short : List Int) (hs : short.length ≤ 9223372036854775807) : Ev (fun k => spec_BalsPost.f k l legs short) (postB l legs short) := by
  unfold spec_BalsPost.f
  have no : ¬ (okB l = true ∧ rightL legs = true ∧ short.length ≤ 20) → Ev (fun k => spec_BalsPost.j0 k l legs short true) (postB l legs short) := fun h => by
    have hp : postB l legs short = ([], 1) := if_neg h
    rw [hp]
    exact Ev_one fun k => by simp only [spec_BalsPost.j0]; rw [if_pos trivial]
  refine Ev_bind (balsOk_s l) ?_
  by_cases h1 : okB l = true
  · refine Ev.congr (fun k => by rw [if_pos h1]) (Ev_bind (right_s legs) ?_)
    by_cases h2 : rightL legs = true
    · refine Ev.congr (fun k => by rw [if_pos h2]) ?_
      by_cases h3 : short.length ≤ 20
      · rw [decide_eq_false (show ¬ (short.length : Int) > 20 by omega)]
        have ho := (okB_iff l).1 h1
        have hr := (rightL_iff legs).1 h2
        have hl1 := ho.1
        have hp : postB l legs short = if okL legs = true then mainB l legs short else (l, 2) := if_pos ⟨h1, h2, h3⟩
        rw [hp]
        refine Ev.step (fun k => by simp only [spec_BalsPost.j0, Option.bind_some]; rw [if_neg (by decide), if_pos (clone_s l (by omega)), List.nil_append]) ?_
        refine Ev_bind (legsOk_s legs) ?_
        by_cases h4 : okL legs = true
        · rw [if_pos h4]
          exact Ev.congr (fun k => if_pos h4) (go_s ho hr h3)
        · rw [if_neg h4]
          exact Ev_all_k fun k => if_neg h4
      · rw [decide_eq_true (show (short.length : Int) > 20 by omega)]
        exact no fun g => h3 g.2.2
    · exact Ev.congr (fun k => if_neg h2) (no fun g => h2 g.2.1)
  · exact Ev.congr (fun k => if_neg h1) (no fun g => h1 g.1)
end Go.Proofs.Ytpcjpjjkaplebaa.B5
namespace Go.Proofs.Ytpcjpjjkaplebaa.B6
open Go Go.RowKit Go.Proofs.Ytpcjpjjkaplebaa.P Go.Proofs.YtpcjpjjkaplebaaW.PrintWords Go.Proofs.YtpcjpjjkaplebaaW.PrintLast Go.Proofs.Ytpcjpjjkaplebaa.EV Go.Proofs.Ytpcjpjjkaplebaa.I1 Go.Proofs.Ytpcjpjjkaplebaa.N1 Go.Proofs.Ytpcjpjjkaplebaa.B1 Go.Proofs.Ytpcjpjjkaplebaa.B2 Go.Proofs.Ytpcjpjjkaplebaa.B3 Go.Proofs.Ytpcjpjjkaplebaa.B4 Go.Proofs.Ytpcjpjjkaplebaa.G1 Go.Proofs.Ytpcjpjjkaplebaa.B5
theorem postB_cases (l : List SB) (legs : List SL) (short : List Int) :
    (postB l legs short = ([], 1)) ∨ (∃ c, postB l legs short = (l, c) ∧ (c = 2 ∧ okL legs = false ∨ (c = 3 ∨ c = 4 ∨ c = 5) ∧ okL legs = true)) ∨
    (∃ o, postB l legs short = (o, 0) ∧ okB l = true ∧ okL legs = true ∧ short.length ≤ 20 ∧ goP l legs = some o ∧ o.length ≤ 160 ∧ legs.any (shortB o short) = false) := by
  unfold postB
  by_cases h : okB l = true ∧ rightL legs = true ∧ short.length ≤ 20
  · rw [if_pos h]
    by_cases h2 : okL legs = true
    · rw [if_pos h2]
      unfold mainB
      cases hg : goP l legs with
      | none => exact .inr (.inl ⟨4, rfl, .inr ⟨by omega, h2⟩⟩)
      | some o =>
        show _ ∨ (∃ c, endB l o legs short = (l, c) ∧ _) ∨ (∃ o', endB l o legs short = (o', 0) ∧ _)
        unfold endB
        cases ha : legs.any (shortB o short) with
        | true =>
          rw [if_pos rfl]
          exact .inr (.inl ⟨3, rfl, .inr ⟨by omega, h2⟩⟩)
        | false =>
          rw [if_neg (by decide)]
          by_cases hl : o.length ≤ 160
          · rw [if_pos hl]
            exact .inr (.inr ⟨o, rfl, h.1, h2, h.2.2, rfl, hl, ha⟩)
          · rw [if_neg hl]
            exact .inr (.inl ⟨5, rfl, .inr ⟨by omega, h2⟩⟩)
    · rw [if_neg h2]
      exact .inr (.inl ⟨2, rfl, .inl ⟨rfl, by simpa using h2⟩⟩)
  · rw [if_neg h]
    exact .inl rfl
end Go.Proofs.Ytpcjpjjkaplebaa.B6
namespace Go.Proofs.Ytpcjpjjkaplebaa.T1
open Go Go.RowKit Go.Proofs.Ytpcjpjjkaplebaa.P Go.Proofs.YtpcjpjjkaplebaaW.PrintWords Go.Proofs.YtpcjpjjkaplebaaW.PrintLast Go.Proofs.Ytpcjpjjkaplebaa.EV
def cvBal (x : S66) : S58 := ⟨x.f0, x.f1, x.f2⟩
theorem sz_Bal  (l : List S66) (left : Int) (h0 : 0 ≤ left) (h1 : left ≤ 1048576) (hm : l.length ≤ 9223372036854775807) : laws_szBalS.f l left = some (if left < (l.length : Int) then -1 else left - l.length) := by
  unfold laws_szBalS.f
  rw [w64_in _ (by omega) (by omega)]
  by_cases h : left < (l.length : Int)
  · rw [if_pos h, if_pos (by omega)]
  · rw [if_neg h, if_neg (by omega)]
theorem rd1_Bal (l : List S66) (i : Nat) : rd_T66 l (i : Int) = l.getD i z66 := by unfold rd_T66; rw [Int.toNat_natCast]
theorem to_Bal  (l : List S66) (hl : l.length ≤ 1048576) : Ev (fun k => laws_toBalS.f k l) (l.map cvBal) := by
  unfold laws_toBalS.f
  have h := Ev_goes (fun k s i => laws_toBalS.l0 k l s i) l.length (fun i s => s.take i ++ (l.drop i).map cvBal) (fun i s => s.length = l.length)
    (fun s hs => Ev_one fun k => by
      simp only [laws_toBalS.l0]
      rw [if_neg (by omega), List.drop_length, List.map_nil, List.append_nil, ← hs, List.take_length])
    (fun i s hi hs => .inr ⟨s.set i (cvBal (l.getD i z66)), by rw [List.length_set]; exact hs, by
        rw [List.take_add_one, List.take_set_of_le (Nat.le_refl i), List.getElem?_set_self (by omega), List.drop_eq_getElem_cons hi, List.map_cons]
        have : l.getD i z66 = l[i] := by rw [List.getD_eq_getElem?_getD, List.getElem?_eq_getElem hi]; rfl
        rw [this]
        simp, fun k => by
        show laws_toBalS.l0 (k + 1) l s (i : Int) = _
        simp only [laws_toBalS.l0]
        rw [if_pos (by omega), if_pos (by omega), w_succ hi (by omega)]
        simp only [laws_toBal.f, Option.bind_some, rd1_Bal]
        rw [if_pos (by omega)]
        simp only [Int.toNat_natCast]
        rfl⟩) l.length 0 (List.replicate l.length z58) (by omega) (by omega) (by simp)
  refine Ev.congr (fun k => ?_) h
  rw [if_pos (by omega), if_pos (by omega)]
  rfl
theorem eq1_Bal (x : S58) : laws_eqBal.f x.f0 x.f1 x.f2 x.f0 x.f1 x.f2 = some true := by unfold laws_eqBal.f; simp
theorem eq_Bal (l : List S58) (hl : l.length ≤ 9223372036854775807) : Ev (fun k => laws_eqBalS.f k l l) true := by
  unfold laws_eqBalS.f
  obtain ⟨r, hr, hiff⟩ := Ev_asks (fun k i => laws_eqBalS.l0 k l l i) l.length (fun _ => True) true
    (Ev_one fun k => by simp only [laws_eqBalS.l0]; rw [if_neg (by omega)])
    (fun i hi => .inl ⟨trivial, fun k => by
      show laws_eqBalS.l0 (k + 1) l l (i : Int) = _
      simp only [laws_eqBalS.l0]
      rw [if_pos (by omega), if_pos (by omega), if_pos (by omega), w_succ hi (by omega)]
      simp only [eq1_Bal, Option.bind_some, if_true]⟩) l.length 0 (by omega) (by omega)
  obtain rfl : r = true := hiff.2 ⟨fun _ _ _ => trivial, rfl⟩
  refine Ev.congr (fun k => ?_) hr
  rw [if_pos rfl]
  rfl
def cvLeg (x : S70) : S61 := ⟨x.f0, x.f1, x.f2⟩
theorem sz_Leg  (l : List S70) (left : Int) (h0 : 0 ≤ left) (h1 : left ≤ 1048576) (hm : l.length ≤ 9223372036854775807) : laws_szLegS.f l left = some (if left < (l.length : Int) then -1 else left - l.length) := by
  unfold laws_szLegS.f
  rw [w64_in _ (by omega) (by omega)]
  by_cases h : left < (l.length : Int)
  · rw [if_pos h, if_pos (by omega)]
  · rw [if_neg h, if_neg (by omega)]
theorem rd1_Leg (l : List S70) (i : Nat) : rd_T70 l (i : Int) = l.getD i z70 := by unfold rd_T70; rw [Int.toNat_natCast]
theorem to_Leg  (l : List S70) (hl : l.length ≤ 1048576) : Ev (fun k => laws_toLegS.f k l) (l.map cvLeg) := by
  unfold laws_toLegS.f
  have h := Ev_goes (fun k s i => laws_toLegS.l0 k l s i) l.length (fun i s => s.take i ++ (l.drop i).map cvLeg) (fun i s => s.length = l.length)
    (fun s hs => Ev_one fun k => by
      simp only [laws_toLegS.l0]
      rw [if_neg (by omega), List.drop_length, List.map_nil, List.append_nil, ← hs, List.take_length])
    (fun i s hi hs => .inr ⟨s.set i (cvLeg (l.getD i z70)), by rw [List.length_set]; exact hs, by
        rw [List.take_add_one, List.take_set_of_le (Nat.le_refl i), List.getElem?_set_self (by omega), List.drop_eq_getElem_cons hi, List.map_cons]
        have : l.getD i z70 = l[i] := by rw [List.getD_eq_getElem?_getD, List.getElem?_eq_getElem hi]; rfl
        rw [this]
        simp, fun k => by
        show laws_toLegS.l0 (k + 1) l s (i : Int) = _
        simp only [laws_toLegS.l0]
        rw [if_pos (by omega), if_pos (by omega), w_succ hi (by omega)]
        simp only [laws_toLeg.f, Option.bind_some, rd1_Leg]
        rw [if_pos (by omega)]
        simp only [Int.toNat_natCast]
        rfl⟩) l.length 0 (List.replicate l.length z61) (by omega) (by omega) (by simp)
  refine Ev.congr (fun k => ?_) h
  rw [if_pos (by omega), if_pos (by omega)]
  rfl
theorem eq1_Leg (x : S61) : laws_eqLeg.f x.f0 x.f1 x.f2 x.f0 x.f1 x.f2 = some true := by unfold laws_eqLeg.f; simp
theorem eq_Leg (l : List S61) (hl : l.length ≤ 9223372036854775807) : Ev (fun k => laws_eqLegS.f k l l) true := by
  unfold laws_eqLegS.f
  obtain ⟨r, hr, hiff⟩ := Ev_asks (fun k i => laws_eqLegS.l0 k l l i) l.length (fun _ => True) true
    (Ev_one fun k => by simp only [laws_eqLegS.l0]; rw [if_neg (by omega)])
    (fun i hi => .inl ⟨trivial, fun k => by
      show laws_eqLegS.l0 (k + 1) l l (i : Int) = _
      simp only [laws_eqLegS.l0]
      rw [if_pos (by omega), if_pos (by omega), if_pos (by omega), w_succ hi (by omega)]
      simp only [eq1_Leg, Option.bind_some, if_true]⟩) l.length 0 (by omega) (by omega)
  obtain rfl : r = true := hiff.2 ⟨fun _ _ _ => trivial, rfl⟩
  refine Ev.congr (fun k => ?_) hr
  rw [if_pos rfl]
  rfl
end Go.Proofs.Ytpcjpjjkaplebaa.T1
namespace Go.Proofs.Ytpcjpjjkaplebaa.TI
open Go Go.RowKit Go.Proofs.Ytpcjpjjkaplebaa.P Go.Proofs.YtpcjpjjkaplebaaW.PrintWords Go.Proofs.YtpcjpjjkaplebaaW.PrintLast Go.Proofs.Ytpcjpjjkaplebaa.EV
theorem rdi (l : List Int) (i : Nat) : rd l (i : Int) = l.getD i 0 := by unfold rd; rw [Int.toNat_natCast]
theorem to_Int (l : List Int) (hl : l.length ≤ 1048576) : Ev (fun k => laws_toIntS.f k l) l := by
  unfold laws_toIntS.f
  have h := Ev_goes (fun k s i => laws_toIntS.l0 k l s i) l.length (fun i s => s.take i ++ l.drop i) (fun i s => s.length = l.length)
    (fun s hs => Ev_one fun k => by
      simp only [laws_toIntS.l0]
      rw [if_neg (by omega), List.drop_length, List.append_nil, ← hs, List.take_length])
    (fun i s hi hs => .inr ⟨s.set i (l.getD i 0), by rw [List.length_set]; exact hs, by
        rw [List.take_add_one, List.take_set_of_le (Nat.le_refl i), List.getElem?_set_self (by omega), List.drop_eq_getElem_cons hi]
        have : l.getD i 0 = l[i] := by rw [List.getD_eq_getElem?_getD, List.getElem?_eq_getElem hi]; rfl
        rw [this]
        simp, fun k => by
        show laws_toIntS.l0 (k + 1) l s (i : Int) = _
        simp only [laws_toIntS.l0]
        rw [if_pos (by omega), if_pos (by omega), w_succ hi (by omega)]
        simp only [rdi]
        rw [if_pos (by omega)]
        simp only [Int.toNat_natCast]⟩) l.length 0 (List.replicate l.length 0) (by omega) (by omega) (by simp)
  refine Ev.congr (fun k => ?_) h
  rw [if_pos (by omega), if_pos (by omega)]
  rfl
theorem eq_Int (l : List Int) (hl : l.length ≤ 9223372036854775807) : Ev (fun k => laws_eqIntS.f k l l) true := by
  unfold laws_eqIntS.f
  obtain ⟨r, hr, hiff⟩ := Ev_asks (fun k i => laws_eqIntS.l0 k l l i) l.length (fun _ => True) true
    (Ev_one fun k => by simp only [laws_eqIntS.l0]; rw [if_neg (by omega)])
    (fun i hi => .inl ⟨trivial, fun k => by
      show laws_eqIntS.l0 (k + 1) l l (i : Int) = _
      simp only [laws_eqIntS.l0]
      rw [if_pos (by omega), if_pos (by omega), if_pos (by omega), if_pos trivial, w_succ hi (by omega)]⟩) l.length 0 (by omega) (by omega)
  obtain rfl : r = true := hiff.2 ⟨fun _ _ _ => trivial, rfl⟩
  refine Ev.congr (fun k => ?_) hr
  rw [if_pos rfl]
  rfl
end Go.Proofs.Ytpcjpjjkaplebaa.TI
namespace Go.Proofs.Ytpcjpjjkaplebaa.M1
open Go Go.RowKit Go.Proofs.Ytpcjpjjkaplebaa.P Go.Proofs.YtpcjpjjkaplebaaW.PrintWords Go.Proofs.YtpcjpjjkaplebaaW.PrintLast Go.Proofs.Ytpcjpjjkaplebaa.EV
theorem set_set_getD {α : Type} (l : List α) (i : Nat) (x z : α) (h : i < l.length) : (l.set i x).getD i z = x := by rw [getD_set, if_pos ⟨rfl, h⟩]
theorem set_set_eq {α : Type} (l : List α) (i : Nat) (x y : α) : (l.set i x).set i y = l.set i y := List.set_set ..
def mkInt (c : Int) (n : Nat) : List Int := (List.range n).map fun (j : Nat) => c + (j : Int)
theorem mkInt_len (c : Int) (n : Nat) : (mkInt c n).length = n := by unfold mkInt; simp
theorem mkInt_at (c : Int) (n j : Nat) (h : j < n) : (mkInt c n).getD j 0 = c + (j : Int) := by
  unfold mkInt
  rw [List.getD_eq_getElem?_getD, List.getElem?_map, List.getElem?_range h]
  rfl
theorem mark_Int (l : List Int) (c : Int) (h0 : 0 ≤ c) (h1 : c ≤ 1000000000000) (hl : l.length ≤ 1048577) : Ev (fun k => laws_markIntS.f k l c) (c + (l.length : Int), mkInt c l.length) := by
  unfold laws_markIntS.f
  have h := Ev_goes (fun k (s : List Int × Int) i => laws_markIntS.l0 k s.1 s.2 i) l.length (fun _ _ => (c + (l.length : Int), mkInt c l.length)) (fun i s => s.1.length = l.length ∧ s.2 = c + (i : Int) ∧ ∀ j, j < i → s.1.getD j 0 = c + (j : Int))
    (fun s hs => Ev_one fun k => by
      obtain ⟨s1, s2, s3⟩ := hs
      simp only [laws_markIntS.l0]
      rw [if_neg (by omega), s2]
      congr 2
      refine ext_getD 0 (by rw [mkInt_len, s1]) fun i hi => ?_
      rw [s3 i (by omega), mkInt_at _ _ _ (by omega)])
    (fun i s hi hs => by
      obtain ⟨s1, s2, s3⟩ := hs
      obtain ⟨l1, x⟩ := s
      dsimp only at s1 s2 s3
      refine .inr ⟨(l1.set i x, c + ((i + 1 : Nat) : Int)), ⟨by rw [List.length_set]; exact s1, rfl, fun j hj => ?_⟩, rfl, fun k => ?_⟩
      · rw [getD_set]
        by_cases e : i = j
        · subst e
          rw [if_pos ⟨rfl, by omega⟩, s2]
        · rw [if_neg (fun g => e g.1)]
          exact s3 j (by omega)
      · show laws_markIntS.l0 (k + 1) l1 x (i : Int) = _
        simp only [laws_markIntS.l0]
        rw [if_pos (by omega), if_pos (by omega), w_succ hi (by omega), Int.toNat_natCast, s2, w64_in _ (by omega) (by omega)]
        have e2 : c + ((i + 1 : Nat) : Int) = c + (i : Int) + 1 := by omega
        rw [e2]) l.length 0 (l, c) (by omega) (by omega) ⟨rfl, by omega, fun j hj => by omega⟩
  exact h
def mkBal (c : Int) (n : Nat) : List S58 := (List.range n).map fun (j : Nat) => (⟨c + 3 * (j : Int), c + 3 * (j : Int) + 1, c + 3 * (j : Int) + 2⟩ : S58)
theorem mkBal_len (c : Int) (n : Nat) : (mkBal c n).length = n := by unfold mkBal; simp
theorem mkBal_at (c : Int) (n j : Nat) (h : j < n) : (mkBal c n).getD j z58 = ⟨c + 3 * (j : Int), c + 3 * (j : Int) + 1, c + 3 * (j : Int) + 2⟩ := by
  unfold mkBal
  rw [List.getD_eq_getElem?_getD, List.getElem?_map, List.getElem?_range h]
  rfl
theorem rdM_Bal (l : List S58) (i : Nat) : rd_T58 l (i : Int) = l.getD i z58 := by unfold rd_T58; rw [Int.toNat_natCast]
theorem mark_Bal (l : List S58) (c : Int) (h0 : 0 ≤ c) (h1 : c ≤ 1000000000000) (hl : l.length ≤ 1048577) : Ev (fun k => laws_markBalS.f k l c) (c + 3 * (l.length : Int), mkBal c l.length) := by
  unfold laws_markBalS.f
  have h := Ev_goes (fun k (s : List S58 × Int) i => laws_markBalS.l0 k s.1 s.2 i) l.length (fun _ _ => (c + 3 * (l.length : Int), mkBal c l.length)) (fun i s => s.1.length = l.length ∧ s.2 = c + 3 * (i : Int) ∧ ∀ j, j < i → s.1.getD j z58 = ⟨c + 3 * (j : Int), c + 3 * (j : Int) + 1, c + 3 * (j : Int) + 2⟩)
    (fun s hs => Ev_one fun k => by
      obtain ⟨s1, s2, s3⟩ := hs
      simp only [laws_markBalS.l0]
      rw [if_neg (by omega), s2]
      congr 2
      refine ext_getD z58 (by rw [mkBal_len, s1]) fun i hi => ?_
      rw [s3 i (by omega), mkBal_at _ _ _ (by omega)])
    (fun i s hi hs => by
      obtain ⟨s1, s2, s3⟩ := hs
      obtain ⟨l1, x⟩ := s
      dsimp only at s1 s2 s3
      refine .inr ⟨(l1.set i (⟨c + 3 * (i : Int), c + 3 * (i : Int) + 1, c + 3 * (i : Int) + 2⟩ : S58), c + 3 * ((i + 1 : Nat) : Int)), ⟨by rw [List.length_set]; exact s1, rfl, fun j hj => ?_⟩, rfl, fun k => ?_⟩
      · rw [getD_set]
        by_cases e : i = j
        · subst e
          rw [if_pos ⟨rfl, by omega⟩]
        · rw [if_neg (fun g => e g.1)]
          exact s3 j (by omega)
      · show laws_markBalS.l0 (k + 1) l1 x (i : Int) = _
        simp only [laws_markBalS.l0]
        rw [if_pos (by omega), if_pos (by omega), w_succ hi (by omega)]
        simp only [Option.bind_some, rdM_Bal, Int.toNat_natCast, set_set_eq, set_set_getD l1 i _ z58 (show i < l1.length by omega)]
        subst s2
        have w0 : wrap64 (c + 3 * (i : Int) + 1) = c + 3 * (i : Int) + 1 := by unfold wrap64; omega
        have w1 : wrap64 (c + 3 * (i : Int) + 1 + 1) = c + 3 * (i : Int) + 2 := by unfold wrap64; omega
        have w2 : wrap64 (c + 3 * (i : Int) + 2 + 1) = c + 3 * (i : Int) + 3 := by unfold wrap64; omega
        simp only [w0, w1, w2]
        have e2 : c + 3 * ((i + 1 : Nat) : Int) = c + 3 * (i : Int) + 3 := by omega
        rw [e2]) l.length 0 (l, c) (by omega) (by omega) ⟨rfl, by omega, fun j hj => by omega⟩
  exact h
theorem held_Bal (n : Nat) (c : Int) (h0 : 0 ≤ c) (h1 : c ≤ 1000000000000) (hl : n ≤ 1048577) : Ev (fun k => laws_heldBalS.f k (mkBal c n) c) (c + 3 * (n : Int)) := by
  unfold laws_heldBalS.f
  have h := Ev_goes (fun k (s : Int) i => laws_heldBalS.l0 k (mkBal c n) s i) n (fun _ _ => c + 3 * (n : Int)) (fun i s => s = c + 3 * (i : Int))
    (fun s hs => Ev_one fun k => by
      simp only [laws_heldBalS.l0]
      rw [if_neg (by rw [mkBal_len]; omega), hs])
    (fun i s hi hs => by
      refine .inr ⟨c + 3 * ((i + 1 : Nat) : Int), rfl, rfl, fun k => ?_⟩
      show laws_heldBalS.l0 (k + 1) (mkBal c n) s (i : Int) = _
      subst hs
      simp only [laws_heldBalS.l0]
      rw [if_pos (by rw [mkBal_len]; omega), if_pos (by omega), w_succ hi (by omega)]
      simp only [rdM_Bal, mkBal_at c n i hi]
      have w0 : wrap64 (c + 3 * (i : Int) + 1) = c + 3 * (i : Int) + 1 := by unfold wrap64; omega
      have w1 : wrap64 (c + 3 * (i : Int) + 1 + 1) = c + 3 * (i : Int) + 2 := by unfold wrap64; omega
      have w2 : wrap64 (c + 3 * (i : Int) + 2 + 1) = c + 3 * (i : Int) + 3 := by unfold wrap64; omega
      simp only [w0, w1, w2]
      have e2 : c + 3 * ((i + 1 : Nat) : Int) = c + 3 * (i : Int) + 3 := by omega
      rw [if_pos trivial, if_pos trivial, if_pos trivial, e2]) n 0 c (by omega) (by omega) (by omega)
  exact h
def mkLeg (c : Int) (n : Nat) : List S61 := (List.range n).map fun (j : Nat) => (⟨c + 3 * (j : Int), c + 3 * (j : Int) + 1, c + 3 * (j : Int) + 2⟩ : S61)
theorem mkLeg_len (c : Int) (n : Nat) : (mkLeg c n).length = n := by unfold mkLeg; simp
theorem mkLeg_at (c : Int) (n j : Nat) (h : j < n) : (mkLeg c n).getD j z61 = ⟨c + 3 * (j : Int), c + 3 * (j : Int) + 1, c + 3 * (j : Int) + 2⟩ := by
  unfold mkLeg
  rw [List.getD_eq_getElem?_getD, List.getElem?_map, List.getElem?_range h]
  rfl
theorem rdM_Leg (l : List S61) (i : Nat) : rd_T61 l (i : Int) = l.getD i z61 := by unfold rd_T61; rw [Int.toNat_natCast]
theorem mark_Leg (l : List S61) (c : Int) (h0 : 0 ≤ c) (h1 : c ≤ 1000000000000) (hl : l.length ≤ 1048577) : Ev (fun k => laws_markLegS.f k l c) (c + 3 * (l.length : Int), mkLeg c l.length) := by
  unfold laws_markLegS.f
  have h := Ev_goes (fun k (s : List S61 × Int) i => laws_markLegS.l0 k s.1 s.2 i) l.length (fun _ _ => (c + 3 * (l.length : Int), mkLeg c l.length)) (fun i s => s.1.length = l.length ∧ s.2 = c + 3 * (i : Int) ∧ ∀ j, j < i → s.1.getD j z61 = ⟨c + 3 * (j : Int), c + 3 * (j : Int) + 1, c + 3 * (j : Int) + 2⟩)
    (fun s hs => Ev_one fun k => by
      obtain ⟨s1, s2, s3⟩ := hs
      simp only [laws_markLegS.l0]
      rw [if_neg (by omega), s2]
      congr 2
      refine ext_getD z61 (by rw [mkLeg_len, s1]) fun i hi => ?_
      rw [s3 i (by omega), mkLeg_at _ _ _ (by omega)])
    (fun i s hi hs => by
      obtain ⟨s1, s2, s3⟩ := hs
      obtain ⟨l1, x⟩ := s
      dsimp only at s1 s2 s3
      refine .inr ⟨(l1.set i (⟨c + 3 * (i : Int), c + 3 * (i : Int) + 1, c + 3 * (i : Int) + 2⟩ : S61), c + 3 * ((i + 1 : Nat) : Int)), ⟨by rw [List.length_set]; exact s1, rfl, fun j hj => ?_⟩, rfl, fun k => ?_⟩
      · rw [getD_set]
        by_cases e : i = j
        · subst e
          rw [if_pos ⟨rfl, by omega⟩]
        · rw [if_neg (fun g => e g.1)]
          exact s3 j (by omega)
      · show laws_markLegS.l0 (k + 1) l1 x (i : Int) = _
        simp only [laws_markLegS.l0]
        rw [if_pos (by omega), if_pos (by omega), w_succ hi (by omega)]
        simp only [Option.bind_some, rdM_Leg, Int.toNat_natCast, set_set_eq, set_set_getD l1 i _ z61 (show i < l1.length by omega)]
        subst s2
        have w0 : wrap64 (c + 3 * (i : Int) + 1) = c + 3 * (i : Int) + 1 := by unfold wrap64; omega
        have w1 : wrap64 (c + 3 * (i : Int) + 1 + 1) = c + 3 * (i : Int) + 2 := by unfold wrap64; omega
        have w2 : wrap64 (c + 3 * (i : Int) + 2 + 1) = c + 3 * (i : Int) + 3 := by unfold wrap64; omega
        simp only [w0, w1, w2]
        have e2 : c + 3 * ((i + 1 : Nat) : Int) = c + 3 * (i : Int) + 3 := by omega
        rw [e2]) l.length 0 (l, c) (by omega) (by omega) ⟨rfl, by omega, fun j hj => by omega⟩
  exact h
end Go.Proofs.Ytpcjpjjkaplebaa.M1
namespace Go.Proofs.Ytpcjpjjkaplebaa.Pure
open Go Go.RowKit Go.Proofs.Ytpcjpjjkaplebaa.P Go.Proofs.YtpcjpjjkaplebaaW.PrintWords Go.Proofs.YtpcjpjjkaplebaaW.PrintLast Go.Proofs.Ytpcjpjjkaplebaa.EV Go.Proofs.Ytpcjpjjkaplebaa.I1 Go.Proofs.Ytpcjpjjkaplebaa.N1 Go.Proofs.Ytpcjpjjkaplebaa.B1 Go.Proofs.Ytpcjpjjkaplebaa.B2 Go.Proofs.Ytpcjpjjkaplebaa.B3 Go.Proofs.Ytpcjpjjkaplebaa.B4 Go.Proofs.Ytpcjpjjkaplebaa.G1 Go.Proofs.Ytpcjpjjkaplebaa.B5 Go.Proofs.Ytpcjpjjkaplebaa.B6 Go.Proofs.Ytpcjpjjkaplebaa.T1 Go.Proofs.Ytpcjpjjkaplebaa.TI Go.Proofs.Ytpcjpjjkaplebaa.M1
theorem FnExactBalsPost : ∀ (l0 : List (S66)) (l1 : List (S70)) (l2 : List Int), l0.length ≤ 9223372036854775807 → (∀ x ∈ l0, (Lit.int .i64 x.f0).wf = true ∧ (Lit.int .i64 x.f1).wf = true ∧ (Lit.int .i64 x.f2).wf = true) → l1.length ≤ 9223372036854775807 → (∀ x ∈ l1, (Lit.int .i64 x.f0).wf = true ∧ (Lit.int .i64 x.f1).wf = true ∧ (Lit.int .i64 x.f2).wf = true) → l2.length ≤ maxLen → l2.length * 8 ≤ 140737488351232 → (∀ x ∈ l2, (Lit.int .i64 x).wf = true) → ∃ k, laws_FnExactBalsPost.f k l0 l1 l2 = some true := by
  intro l g s hm0 _ hm1 _ _ _ _
  refine Ev.rounds ?_
  unfold laws_FnExactBalsPost.f
  by_cases hs : (s.length : Int) > 1048576
  · exact Ev_all_k fun k => if_pos hs
  refine Ev.congr (fun k => if_neg hs) ?_
  by_cases hl : 1048576 < l.length
  · exact Ev_all_k fun k => by rw [sz_Bal l 1048576 (by decide) (by decide) hm0, if_pos (by omega), Option.bind_some, if_pos (by decide)]
  refine Ev.congr (fun k => by rw [sz_Bal l 1048576 (by decide) (by decide) (by omega), if_neg (by omega), Option.bind_some, if_neg (by omega)]) ?_
  by_cases hg : (1048576 : Int) - l.length < (g.length : Int)
  · exact Ev_all_k fun k => by rw [sz_Leg g _ (by omega) (by omega) hm1, if_pos hg, Option.bind_some, if_pos (by decide)]
  refine Ev.congr (fun k => by rw [sz_Leg g _ (by omega) (by omega) hm1, if_neg hg, Option.bind_some, if_neg (by omega)]) ?_
  have hm : l.length ≤ 1048576 := by omega
  have hmg : g.length ≤ 1048576 := by omega
  have hms : s.length ≤ 1048576 := by omega
  have hc : (l.map cvBal).length ≤ 1048576 := by rw [List.length_map]; exact hm
  have hcg : (g.map cvLeg).length ≤ 1048576 := by rw [List.length_map]; exact hmg
  obtain ⟨o, ho⟩ : ∃ o, o = postB (l.map cvBal) (g.map cvLeg) s := ⟨_, rfl⟩
  have hS : Ev (fun k => spec_BalsPost.f k (l.map cvBal) (g.map cvLeg) s) o := by rw [ho]; exact post_s _ _ s (by omega)
  have hI : Ev (fun k => impl_BalsPost.f k (l.map cvBal) (g.map cvLeg) s) o := by rw [ho]; exact post_i _ _ s hc (by omega)
  have ol : o.1.length ≤ 1048577 := by
    rw [ho]
    rcases postB_cases (l.map cvBal) (g.map cvLeg) s with h | ⟨c, h, _⟩ | ⟨o', h, _, _, _, _, h2, _⟩
    · rw [h]; exact Nat.zero_le _
    · rw [h]; show (l.map cvBal).length ≤ _; omega
    · rw [h]; show o'.length ≤ _; omega
  have hb : (o.2 != o.2) = false := by simp
  refine Ev_bind (to_Bal l hm) (Ev_bind (to_Leg g hmg) (Ev_bind (to_Int s hms) (Ev_bind hS (Ev_bind (to_Bal l hm) (Ev_bind (to_Leg g hmg) (Ev_bind (to_Int s hms) (Ev_bind hI (Ev_bind (eq_Bal o.1 (by omega)) ?_))))))))
  refine Ev.congr (fun k => by rw [if_pos rfl, hb]) ?_
  refine Ev.step (fun k => by simp only [laws_FnExactBalsPost.j0]; rw [if_neg (by decide)]) ?_
  refine Ev_bind (to_Bal l hm) (Ev_bind (eq_Bal _ (by omega)) ?_)
  refine Ev.congr (fun k => if_pos rfl) ?_
  refine Ev_bind (to_Leg g hmg) (Ev_bind (eq_Leg _ (by omega)) ?_)
  refine Ev.congr (fun k => if_pos rfl) ?_
  refine Ev_bind (to_Int s hms) (Ev_bind (eq_Int _ (by omega)) ?_)
  refine Ev.congr (fun k => if_pos rfl) ?_
  refine Ev_bind (mark_Bal _ 1 (by decide) (by decide) (by omega)) ?_
  refine Ev_bind (mark_Leg _ (1 + 3 * ((l.map cvBal).length : Int)) (by omega) (by omega) (by omega)) ?_
  refine Ev_bind (mark_Int s (1 + 3 * ((l.map cvBal).length : Int) + 3 * ((g.map cvLeg).length : Int)) (by omega) (by omega) (by omega)) ?_
  refine Ev.congr (fun k => if_neg (by show ¬ ((1 : Int) + 3 * ((l.map cvBal).length : Int) + 3 * ((g.map cvLeg).length : Int) + (s.length : Int) < 0); omega)) ?_
  refine Ev_bind (eq_Bal o.1 (by omega)) ?_
  refine Ev.congr (fun k => by rw [if_pos rfl, hb]) ?_
  refine Ev.step (fun k => by simp only [laws_FnExactBalsPost.j1]; rw [if_neg (by decide)]) ?_
  refine Ev_bind (mark_Bal o.1 1 (by decide) (by decide) ol) (Ev_bind (held_Bal o.1.length 1 (by decide) (by decide) ol) ?_)
  refine Ev.congr (fun k => (if_neg (by show ¬ ((1 : Int) + 3 * (o.1.length : Int) < 0); omega)).trans (if_pos rfl)) ?_
  refine Ev_bind (to_Bal l hm) (Ev_bind (to_Leg g hmg) (Ev_bind (to_Int s hms) (Ev_bind hI (Ev_bind (eq_Bal o.1 (by omega)) ?_))))
  refine Ev.congr (fun k => by rw [if_pos rfl, hb]) ?_
  refine Ev.step (fun k => by simp only [laws_FnExactBalsPost.j2]; rw [if_neg (by decide)]) ?_
  refine Ev_bind (held_Bal o.1.length 1 (by decide) (by decide) ol) ?_
  exact Ev_all_k fun k => by rw [if_neg (by omega), if_pos rfl]
end Go.Proofs.Ytpcjpjjkaplebaa.Pure
namespace Go.Proofs.Ytpcjpjjkaplebaa.RS
open Go Go.ChangeShapes Go.WideShapes Go.Deep Go.RowKit Go.Proofs.YtpcjpjjkaplebaaW.PrintWords
def allInts (P : Program) (fs : Array Field) : Bool := (List.range fs.size).all fun i => match fs[i]? with
  | some f => (match P.underlying f.type with | some (.int .i64) => true | _ => false)
  | none => false
theorem allInts_of {P : Program} {fs : Array Field} (h : allInts P fs = true) : ∀ (i : Nat) (f : Field), fs[i]? = some f → P.underlying f.type = some (.int .i64) := by
  intro i f hi
  have hlt : i < fs.size := (Array.getElem?_eq_some_iff.1 hi).1
  have z := List.all_eq_true.1 h i (List.mem_range.2 hlt)
  simp only [hi] at z
  split at z
  · assumption
  · cases z
section
variable {H : Type} {enc : TypeId × Value → H} {P : Program} {w : World} {base : Nat} {spare : Nat → Bool} {held : Bool}
theorem open_rows {t e : TypeId} {fs : Array Field} {fuel : Nat} {v : Value} {x : DataW H × List MemPlace} (ht : P.underlying t = some (.slice e)) (he : P.underlying e = some (.struct fs))
    (hone : oneCellFields P fs = true) (hint : allInts P fs = true) (hC : P.cellsOf e = fs.size) (h : DataW.trod enc P w base spare held fuel t [v] = some x) :
    ∃ (A : Option Addr) (len cap : Nat) (X : Nat → Nat → Int), v = .slice A len cap ∧ len ≤ cap ∧ cap ≤ maxLen ∧
      (0 < len → ∃ ad, A = some ad ∧ ∀ i, i < len → ∀ j, j < fs.size → w.cell? (ad.add (i * fs.size + j)) = some (.int .i64 (X i j)) ∧ (Lit.int .i64 (X i j)).wf = true) := by
  rcases open_slice ht h with ⟨hcs, _⟩ | ⟨a, len, cap, m, n, D, Pl, hcs, _, hl, hm, hmm, _, hi⟩
  · simp only [List.cons.injEq, and_true] at hcs
    exact ⟨none, 0, 0, fun _ _ => 0, hcs, Nat.le_refl _, Nat.zero_le _, fun hp => absurd hp (Nat.lt_irrefl 0)⟩
  · simp only [List.cons.injEq, and_true] at hcs
    have hmle : len ≤ m := by rw [hmm]; split <;> omega
    have key : ∀ i, i < len → ∃ f : Nat → Int, ∀ j, j < fs.size → w.cell? (a.add (i * fs.size + j)) = some (.int .i64 (f j)) ∧ (Lit.int .i64 (f j)).wf = true := by
      intro i him
      obtain ⟨cs', hc, ht'⟩ := hi i (by omega)
      rw [hC] at hc
      obtain ⟨ys, n', hn', hy, hlen, hyl, hf⟩ := DataW.trod_struct he ht'
      obtain ⟨_, hcl, hat⟩ := World.cells?_some hc
      refine choose_lt (α := Int) (n := fs.size) (p := fun j q => w.cell? (a.add (i * fs.size + j)) = some (.int .i64 q) ∧ (Lit.int .i64 q).wf = true) fun j hj => ?_
      have hfj : fs[j]? = some fs[j] := Array.getElem?_eq_getElem hj
      obtain ⟨ho, hk⟩ := hone_of hone j _ hfj
      have h1 := hf j _ hfj
      rw [ho, hk, take1_drop cs' j undef (by omega)] at h1
      have hys : ys[j]? = some (ys[j]'(by omega)) := List.getElem?_eq_getElem (by omega)
      rw [hys] at h1
      obtain ⟨q, hq, _, hwf⟩ := DataW.trod_int (allInts_of hint j _ hfj) h1
      simp only [List.cons.injEq, and_true] at hq
      have hcell := hat j (by omega)
      rw [List.getElem?_eq_getElem (by omega)] at hcell
      have hgd : cs'.getD j undef = cs'[j]'(by omega) := by
        rw [List.getD_eq_getElem?_getD, List.getElem?_eq_getElem (by omega), Option.getD_some]
      rw [hgd] at hq
      exact ⟨q, by rw [← Go.Deep.add_add, hcell, hq], hwf⟩
    obtain ⟨X, hX⟩ := choose_lt (α := Nat → Int) (n := len) (p := fun i f => ∀ j, j < fs.size → w.cell? (a.add (i * fs.size + j)) = some (.int .i64 (f j)) ∧ (Lit.int .i64 (f j)).wf = true) key
    exact ⟨some a, len, cap, X, hcs, hl, hm, fun _ => ⟨a, rfl, fun i him => hX i him⟩⟩
end
theorem getD_range {α : Type} (n : Nat) (f : Nat → α) (i : Nat) (p : α) (h : ((List.range n).map f)[i]? = some p) : i < n ∧ p = f i := by
  have hi := (List.getElem?_eq_some_iff.1 h).1
  simp only [List.length_map, List.length_range] at hi
  refine ⟨hi, ?_⟩
  rw [List.getElem?_map, List.getElem?_range hi] at h
  simpa using h.symm
theorem mem_map_range {α : Type} {n : Nat} {f : Nat → α} {x : α} (h : x ∈ (List.range n).map f) : ∃ i, i < n ∧ x = f i := by
  obtain ⟨i, hi, rfl⟩ := List.mem_map.1 h
  exact ⟨i, List.mem_range.1 hi, rfl⟩
end Go.Proofs.Ytpcjpjjkaplebaa.RS
namespace Go.Proofs.Ytpcjpjjkaplebaa.RT
open Go Go.RowKit Go.Proofs.Ytpcjpjjkaplebaa.P Go.Proofs.YtpcjpjjkaplebaaW.PrintWords Go.Proofs.YtpcjpjjkaplebaaW.PrintLast
theorem row66 {W : World} {A : Option Addr} {len : Nat} {X : Nat → Nat → Int} (hm : len ≤ maxLen) (hx : 0 < len → ∃ ad, A = some ad ∧ ∀ i, i < len → ∀ j, j < 3 → W.cell? (ad.add (i * 3 + j)) = some (.int .i64 (X i j)) ∧ (Lit.int .i64 (X i j)).wf = true) :
    ∃ l : List S66, len = l.length ∧ Kd.C k66 W A l.length l ∧ ∀ x ∈ l, (Lit.int .i64 x.f0).wf = true ∧ (Lit.int .i64 x.f1).wf = true ∧ (Lit.int .i64 x.f2).wf = true := by
  refine ⟨(List.range len).map fun i => (⟨X i 0, X i 1, X i 2⟩ : S66), by simp, ⟨rfl, by simp only [List.length_map, List.length_range]; exact hm, fun hn => ?_⟩, fun x hxm => ?_⟩
  · obtain ⟨ad, e, hc⟩ := hx (by simpa using hn)
    refine ⟨ad, e, fun j p hj => ⟨_, rfl, k66_mk W p, fun i u hu => ?_⟩⟩
    obtain ⟨hjl, rfl⟩ := RS.getD_range _ _ _ _ hj
    have hi : i < 3 := (List.getElem?_eq_some_iff.1 hu).1
    have hcell := (hc j hjl i hi).1
    match i, hi, hu, hcell with
    | 0, _, hu, hcell => exact hcell.trans hu
    | 1, _, hu, hcell => exact hcell.trans hu
    | 2, _, hu, hcell => exact hcell.trans hu
  · obtain ⟨i, hi, rfl⟩ := RS.mem_map_range hxm
    obtain ⟨ad, e, hc⟩ := hx (by omega)
    exact ⟨(hc i hi 0 (by decide)).2, (hc i hi 1 (by decide)).2, (hc i hi 2 (by decide)).2⟩
theorem row70 {W : World} {A : Option Addr} {len : Nat} {X : Nat → Nat → Int} (hm : len ≤ maxLen) (hx : 0 < len → ∃ ad, A = some ad ∧ ∀ i, i < len → ∀ j, j < 3 → W.cell? (ad.add (i * 3 + j)) = some (.int .i64 (X i j)) ∧ (Lit.int .i64 (X i j)).wf = true) :
    ∃ l : List S70, len = l.length ∧ Kd.C k70 W A l.length l ∧ ∀ x ∈ l, (Lit.int .i64 x.f0).wf = true ∧ (Lit.int .i64 x.f1).wf = true ∧ (Lit.int .i64 x.f2).wf = true := by
  refine ⟨(List.range len).map fun i => (⟨X i 0, X i 1, X i 2⟩ : S70), by simp, ⟨rfl, by simp only [List.length_map, List.length_range]; exact hm, fun hn => ?_⟩, fun x hxm => ?_⟩
  · obtain ⟨ad, e, hc⟩ := hx (by simpa using hn)
    refine ⟨ad, e, fun j p hj => ⟨_, rfl, k70_mk W p, fun i u hu => ?_⟩⟩
    obtain ⟨hjl, rfl⟩ := RS.getD_range _ _ _ _ hj
    have hi : i < 3 := (List.getElem?_eq_some_iff.1 hu).1
    have hcell := (hc j hjl i hi).1
    match i, hi, hu, hcell with
    | 0, _, hu, hcell => exact hcell.trans hu
    | 1, _, hu, hcell => exact hcell.trans hu
    | 2, _, hu, hcell => exact hcell.trans hu
  · obtain ⟨i, hi, rfl⟩ := RS.mem_map_range hxm
    obtain ⟨ad, e, hc⟩ := hx (by omega)
    exact ⟨(hc i hi 0 (by decide)).2, (hc i hi 1 (by decide)).2, (hc i hi 2 (by decide)).2⟩
end Go.Proofs.Ytpcjpjjkaplebaa.RT
namespace Go.Proofs.YtpcjpjjkaplebaaW.PrintWords
open Go.ChangeShapes Go.WideShapes
theorem sized_ints {H : Type} {enc : TypeId × Value → H} {P : Program} {W : World} {base : Nat} {spare : Nat → Bool} {held : Bool} {t e : TypeId} {k : IntKind} {a : Option Addr} {len cap : Nat} {d : DataW H} {ps : List MemPlace} {ts : List TypeId} {ds : List (DataW H)} {j : Nat}
    (hsz : (DataW.weightsEach P ts ds).all (· ≤ reachBytes) = true) (ht : ts[j]? = some t) (hd : ds[j]? = some d) (hu : P.underlying t = some (.slice e)) (he : P.underlying e = some (.int k)) (hc : P.cellsOf e = 1) {B : Nat} (hB : P.bytesOf e = B)
    (h : DataW.Trod enc P W base spare held t (.slice a len cap) d ps) : len * B ≤ 140737488351232 := by
  obtain ⟨fuel, hf⟩ := h
  rcases open_ints hu he hc hf with ⟨hcs, _⟩ | ⟨x, l, c, zs, hcs, _, hl, _, hz, hx, _, _⟩
  · simp [Value.cells] at hcs
    obtain ⟨rfl, rfl, rfl⟩ := hcs
    simp
  · simp [Value.cells] at hcs
    obtain ⟨rfl, rfl, rfl⟩ := hcs
    obtain ⟨hx, _⟩ := Prod.mk.inj hx
    subst hx
    have z := sized_slice hsz ht hd hu
    rw [hB] at z
    have hl2 : len ≤ zs.length := by
      rw [hz]
      split
      · exact hl
      · exact Nat.le_refl _
    have h1 : (lits (H := H) k (zs.take len)).length + (lits (H := H) k (zs.drop len)).length = zs.length := by
      simp [lits]
      omega
    rw [h1] at z
    exact Nat.le_trans (Nat.mul_le_mul_right _ hl2) z
end Go.Proofs.YtpcjpjjkaplebaaW.PrintWords
namespace Go.Proofs.Ytpcjpjjkaplebaa.fnExactBalsPost
open Go.ChangeShapes Go.WideShapes Go.ChangeAt Go.RowKit Go.Proofs.YtpcjpjjkaplebaaW.PrintWords
open Go.ChangeMaps (open_string shut_string)
set_option linter.unusedVariables false
theorem own : ownKnob Try.prog.godebug = none := by kernel_rfl
theorem laidOut : laidOutB Try.prog = true := by kernel_rfl
def IsRow (k : IntKind) (w : World) (a : Option Addr) (len cap : Nat) (zs : List Int) : Prop :=
  (a = none ∧ len = 0 ∧ cap = 0 ∧ zs = []) ∨
  ∃ x, a = some x ∧ len ≤ cap ∧ cap ≤ maxLen ∧ zs.length = cap ∧ (∀ i, i < zs.length → w.cell? (x.add i) = some (.int k (zs.getD i 0))) ∧ ∀ n ∈ zs, (Lit.int k n).wf = true
set_option maxRecDepth 100000 in
theorem lifted (os : Os) (started : os.Started) (H : Type) (enc : TypeId × Value → H) :
    ReturnsInHanded {} Try.checked os 8 .any (Rows.fnExactBalsPostSpec.pre6 enc Try.prog Try.f8 Rows.fnExactBalsPostRow.domain false) (Rows.fnExactBalsPostSpec.post enc Try.prog Try.f8 false true false false) := by
  refine returnsInHanded_of_change_sized (C := Try.checked) own started (by kernel_rfl) Try.func8
    (ChangeSpec.witness6 (enc := enc) (C := Try.checked) false ⟨#[], #[.slice none 0 0, .slice none 0 0, .slice none 0 0], []⟩ 8 (by kernel_rfl) (by kernel_rfl) (by kernel_rfl) (by kernel_rfl)) ?_
  intro W base args ds gs before hval0 hW hcnd hsz0 _
  have hsz : (DataW.weightsEach Try.prog (Try.f8.params.toList ++ Rows.fnExactBalsPostSpec.plain.varTypes Try.prog) (ds ++ gs)).all (· ≤ reachBytes) = true := hsz0
  have hval : ∀ (j : Nat) t v, Try.f8.params[j]? = some t → args[j]? = some v → Value.okWide Try.prog W .any base t v := hval0
  have hW' := hW
  obtain ⟨p, q, hA0, hV, rfl, hfz, hnd⟩ := hW
  have hA : DataW.TrodAll enc Try.prog W 0 (fun _ => true) true Try.f8.params.toList args.toList ds p := hA0
  rw [Try.params8] at hA hval hsz
  obtain ⟨v0, vs0, d0, ds0, p0, q0, hargs, rfl, rfl, h0, r0⟩ := trodAll_cons hA
  obtain ⟨v1, vs1, d1, ds1, p1, q1, rfl, rfl, rfl, h1, r1⟩ := trodAll_cons r0
  obtain ⟨v2, vs2, d2, ds2, p2, q2, rfl, rfl, rfl, h2, r2⟩ := trodAll_cons r1
  obtain ⟨rfl, rfl, rfl⟩ := trodAll_nil r2
  obtain rfl : args = #[v0, v1, v2] := by cases args; simp_all
  obtain ⟨rfl, rfl⟩ := trodVars_none hV
  obtain ⟨a0, len0, cap0, rfl⟩ := okWide_slice Try.underlying22 (hval 0 22 v0 rfl rfl)
  have k0 := h0
  have lt0 : ∀ x ∈ p0, x.block < W.heap.size := by obtain ⟨m, hm⟩ := k0; exact DataW.trod_lt m _ _ _ hm
  obtain ⟨fu0, hf0⟩ := h0
  obtain ⟨A0, n0, c0, X0, hv0, hl0, hm0, hx0⟩ := RS.open_rows Try.underlying22 Try.underlying66 (by kernel_rfl) (by kernel_rfl) (by kernel_rfl) (v := .slice a0 len0 cap0) hf0
  obtain ⟨rfl, rfl, rfl⟩ := Value.slice.inj hv0
  obtain ⟨l0, e0, hr0, hw0⟩ := RT.row66 (Nat.le_trans hl0 hm0) hx0
  subst e0
  obtain ⟨a1, len1, cap1, rfl⟩ := okWide_slice Try.underlying29 (hval 1 29 v1 rfl rfl)
  have k1 := h1
  have lt1 : ∀ x ∈ p1, x.block < W.heap.size := by obtain ⟨m, hm⟩ := k1; exact DataW.trod_lt m _ _ _ hm
  obtain ⟨fu1, hf1⟩ := h1
  obtain ⟨A1, n1, c1, X1, hv1, hl1, hm1, hx1⟩ := RS.open_rows Try.underlying29 Try.underlying70 (by kernel_rfl) (by kernel_rfl) (by kernel_rfl) (v := .slice a1 len1 cap1) hf1
  obtain ⟨rfl, rfl, rfl⟩ := Value.slice.inj hv1
  obtain ⟨l1, e1, hr1, hw1⟩ := RT.row70 (Nat.le_trans hl1 hm1) hx1
  subst e1
  obtain ⟨a2, len2, cap2, rfl⟩ := okWide_slice Try.underlying45 (hval 2 45 v2 rfl rfl)
  have k2 := h2
  have lt2 : ∀ x ∈ p2, x.block < W.heap.size := by obtain ⟨m, hm⟩ := k2; exact DataW.trod_lt m _ _ _ hm
  obtain ⟨z2, w2⟩ : ∃ zs, IsRow .i64 W a2 len2 cap2 zs := by
    obtain ⟨fuel, hf⟩ := h2
    rcases open_ints Try.underlying45 Try.underlying3 (by kernel_rfl) hf with ⟨hcs, _⟩ | ⟨x, l, c, zs, hcs, _, hl, hm, hz, _, hcell, hwz⟩
    · simp [Value.cells] at hcs
      obtain ⟨rfl, rfl, rfl⟩ := hcs
      exact ⟨[], .inl ⟨rfl, rfl, rfl, rfl⟩⟩
    · simp [Value.cells] at hcs
      obtain ⟨rfl, rfl, rfl⟩ := hcs
      exact ⟨zs, .inr ⟨_, rfl, hl, hm, by simpa using hz, hcell, hwz⟩⟩
  have y2 : len2 * 8 ≤ 140737488351232 := Go.Proofs.YtpcjpjjkaplebaaW.PrintWords.sized_ints hsz (j := 2) (t := 45) rfl rfl Try.underlying45 Try.underlying3 (by kernel_rfl) (by kernel_rfl) k2
  obtain ⟨l2, e2, hi2, hm2, hw2, hl2⟩ := ReadsInt.ofRowC w2
  subst e2
  have hr2 := Kd.C_of_reads (d := (0 : Int)) (h1 := fun _ => rfl) hi2
  clear hA0 hval0 hsz0 hsz
  obtain ⟨k, hpure⟩ := Pure.FnExactBalsPost l0 l1 l2 (Kd.C_max hr0) hw0 (Kd.C_max hr1) hw1 hm2 y2 hw2
  refine (P.laws_FnExactBalsPost.calls k _ _ l0 _ _ l1 _ _ l2 true W hr0 hl0 hr1 hl1 hr2 hl2 hpure).mono fun e W' hpost => ?_
  obtain ⟨he, hd⟩ := hpost
  have bel : Below W.heap.size W W' := hd
  subst he
  exact ⟨_, rfl, _, _, _, [], _, [], hW', trodAll_mk1 (shut_bool Try.underlying4 _), (trodAll_cons_mk (Below.trod laidOut (by kernel_rfl) (of_decide_eq_true (by kernel_rfl)) k0 bel lt0) (trodAll_cons_mk (Below.trod laidOut (by kernel_rfl) (of_decide_eq_true (by kernel_rfl)) k1 bel lt1) (trodAll_cons_mk (Below.trod laidOut (by kernel_rfl) (of_decide_eq_true (by kernel_rfl)) k2 bel lt2) trodAll_mk0))), rfl, bel.frame _, fun h => by cases h⟩
theorem over : Rows.fnExactBalsPostRow.holds Try.pinned (OpenSpec.ofChange Rows.fnExactBalsPostSpec) :=
  OpenClaim.holds_of_wide 8 Try.f8 rfl rfl rfl rfl rfl rfl rfl ⟨rfl, rfl, rfl, rfl, rfl⟩ rfl rfl rfl rfl rfl (by kernel_rfl) Try.func8 (by kernel_rfl)
    (of_decide_eq_true (by kernel_rfl)) (by unfold Func.isWrapper; first | (rw [if_pos (by decide +kernel)]; kernel_rfl) | (rw [if_neg (by decide +kernel)]; exact ⟨rfl, rfl⟩))
    (fun os started H enc _ => lifted os started H enc)
theorem proved : Rows.FnExactBalsPostSaid := over
#print axioms proved
end Go.Proofs.Ytpcjpjjkaplebaa.fnExactBalsPost
namespace Go.Proofs.Ytpcjpjjkaplebaa
theorem fnExactBalsPost_holds : Rows.FnExactBalsPostSaid := fnExactBalsPost.proved
end Go.Proofs.Ytpcjpjjkaplebaa
