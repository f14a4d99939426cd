/- BalPut of the program and of the reference agree at every list and numbers, and what is told is the caller's own; no condition but that they are of ints. -/
import Derived.Test.YtpcjpjjkaplebaaZFnExactBalPut2
import Derived.Deep.Slices
import Derived.Deep.Fields
import Derived.ChangeSame
import Derived.ChangeShapes
import Derived.WideShapes
import Derived.SizedLaws
import Derived.Test.YtpcjpjjkaplebaaRows
import Derived.WalkKit
import Derived.ProofKit
import Derived.OpenShut
import Derived.ShutString
import Derived.ChangeOld
import Derived.Below
import Derived.Carry
namespace Go.Proofs.Ytpcjpjjkaplebaa.B4
open Go Go.RowKit Go.Proofs.Ytpcjpjjkaplebaa.P Go.Proofs.YtpcjpjjkaplebaaW.PrintWords Go.Proofs.YtpcjpjjkaplebaaW.PrintLast Go.Proofs.Ytpcjpjjkaplebaa.EV Go.Proofs.Ytpcjpjjkaplebaa.I1 Go.Proofs.Ytpcjpjjkaplebaa.N1 Go.Proofs.Ytpcjpjjkaplebaa.B1 Go.Proofs.Ytpcjpjjkaplebaa.B2 Go.Proofs.Ytpcjpjjkaplebaa.B3
theorem mem_take_getD {l : List SB} {p : Nat} {x : SB} (h : x ∈ l.take p) : ∃ j, j < p ∧ j < l.length ∧ l.getD j z58 = x := by
  obtain ⟨j, hj, rfl⟩ := List.getElem_of_mem h
  rw [List.length_take] at hj
  refine ⟨j, by omega, by omega, ?_⟩
  rw [getD_get _ l j (by omega), List.getElem_take]
theorem take_before {l : List SB} (a b : Int) {x : SB} (hx : x ∈ l.take (atB a b l 0).1) : Bef x.f0 x.f1 a b := by
  obtain ⟨j, hj, _, rfl⟩ := mem_take_getD hx
  exact atB_skip a b l 0 j (by omega)
theorem drop_after {l : List SB} (h : SortB l) (a b : Int) {x : SB} (hx : x ∈ l.drop (nxt a b l)) : Bef a b x.f0 x.f1 := by
  obtain ⟨j, hj, hjl, rfl⟩ := mem_drop hx
  have hr := atB_range a b l 0
  have hn := nxt_le a b l
  have hp : (atB a b l 0).1 < l.length := by omega
  obtain ⟨h1, h2⟩ := atB_stop a b l 0 (by omega)
  rw [Nat.sub_zero] at h1 h2
  unfold nxt at hj
  by_cases e : (atB a b l 0).2 = true
  · rw [if_pos e] at hj
    have hk := h2.1 e
    have h3 := B2.ahead (sortB_good h) (j - (atB a b l 0).1) _ j rfl (by omega) hjl
    rw [hk.1, hk.2] at h3
    exact h3
  · rw [if_neg e] at hj
    have hk : ¬ key (l.getD (atB a b l 0).1 z58) a b := fun g => e (h2.2 g)
    have h4 : Bef a b (l.getD (atB a b l 0).1 z58).f0 (l.getD (atB a b l 0).1 z58).f1 := by
      unfold Bef key at *
      omega
    rcases Nat.eq_or_lt_of_le hj with h5 | h5
    · rw [← h5]; exact h4
    · have h3 := B2.ahead (sortB_good h) (j - (atB a b l 0).1) _ j rfl h5 hjl
      unfold Bef at *
      omega
theorem bef_trans {a b c d e f : Int} (h : Bef a b c d) (k : Bef c d e f) : Bef a b e f := by
  unfold Bef at *
  omega
theorem putB_sort {l : List SB} (h : SortB l) {a b n : Int} (ha : No a) (hb : No b) (hn : Amt n) : SortB (putB l a b n) := by
  have hins : ∀ x ∈ ins a b n, x = ⟨a, b, n⟩ ∧ n ≠ 0 := by
    intro x hx
    unfold ins at hx
    split at hx
    · cases hx
    · rename_i h0
      exact ⟨by simpa using hx, h0⟩
  refine ⟨fun x hx => ?_, ?_⟩
  · unfold putB at hx
    rw [List.mem_append, List.mem_append] at hx
    rcases hx with (hx | hx) | hx
    · exact h.1 x (List.mem_of_mem_take hx)
    · obtain ⟨rfl, h0⟩ := hins x hx
      exact ⟨ha, hb, hn, h0⟩
    · exact h.1 x (List.mem_of_mem_drop hx)
  · unfold putB
    have p1 : (l.take (atB a b l 0).1).Pairwise Lt := h.2.sublist (List.take_sublist _ _)
    have p2 : (l.drop (nxt a b l)).Pairwise Lt := h.2.sublist (List.drop_sublist _ _)
    have p3 : (ins a b n).Pairwise Lt := by
      unfold ins
      split
      · exact List.Pairwise.nil
      · exact List.pairwise_singleton _ _
    rw [List.pairwise_append, List.pairwise_append]
    refine ⟨⟨p1, p3, fun x hx y hy => ?_⟩, p2, fun x hx y hy => ?_⟩
    · obtain ⟨rfl, _⟩ := hins y hy
      exact take_before a b hx
    · rcases List.mem_append.1 hx with hx | hx
      · exact bef_trans (take_before a b hx) (drop_after h a b hy)
      · obtain ⟨rfl, _⟩ := hins x hx
        exact drop_after h a b hy
noncomputable def balPut (l : List SB) (a b n : Int) : List SB × Bool := if okB l = true ∧ No a ∧ No b ∧ Amt n then (if (putB l a b n).length ≤ 160 then (putB l a b n, true) else ([], false)) else ([], false)
theorem balPut_len (l : List SB) (a b n : Int) : (balPut l a b n).1.length ≤ 160 := by
  unfold balPut
  split
  · split
    · assumption
    · exact Nat.zero_le _
  · exact Nat.zero_le _
theorem balPut_i (l : List SB) (a b n : Int) (hm : l.length ≤ 1048576) : Ev (fun k => impl_BalPut.f k l a b n) (balPut l a b n) := by
  unfold impl_BalPut.f
  have no : ¬ (okB l = true ∧ No a ∧ No b ∧ Amt n) → Ev (fun k => impl_BalPut.j0 k l a b n true) (balPut l a b n) := fun h => by
    unfold balPut
    rw [if_neg h]
    exact Ev_one fun k => by simp only [impl_BalPut.j0]; rw [if_pos trivial]
  refine Ev_bind (balsOk_i l (by omega)) ?_
  by_cases h1 : okB l = true
  · refine Ev.congr (fun k => by rw [if_pos h1, no_i, Option.bind_some]) ?_
    by_cases h2 : No a
    · refine Ev.congr (fun k => by rw [if_pos (decide_eq_true h2), no_i, Option.bind_some]) ?_
      by_cases h3 : No b
      · refine Ev.congr (fun k => by rw [if_pos (decide_eq_true h3), amt_i, Option.bind_some]) ?_
        by_cases h4 : Amt n
        · rw [decide_eq_true h4]
          refine Ev.step (fun k => by simp only [impl_BalPut.j0]; rw [if_neg (by decide)]) ?_
          refine Ev_bind (put_i l a b n hm) ?_
          have hbp : balPut l a b n = if (putB l a b n).length ≤ 160 then (putB l a b n, true) else ([], false) := if_pos ⟨h1, h2, h3, h4⟩
          rw [hbp]
          by_cases h5 : (putB l a b n).length ≤ 160
          · rw [if_pos h5]
            exact Ev_all_k fun k => by rw [if_neg (by omega)]
          · rw [if_neg h5]
            exact Ev_all_k fun k => by rw [if_pos (by omega)]
        · rw [decide_eq_false h4]
          exact no fun g => h4 g.2.2.2
      · exact Ev.congr (fun k => if_neg (by rw [decide_eq_false h3]; decide)) (no fun g => h3 g.2.2.1)
    · exact Ev.congr (fun k => if_neg (by rw [decide_eq_false h2]; decide)) (no fun g => h2 g.2.1)
  · exact Ev.congr (fun k => if_neg h1) (no fun g => h1 g.1)
theorem balPut_s (l : List SB) (a b n : Int) (hm : l.length ≤ 1048576) : Ev (fun k => spec_BalPut.f k l a b n) (balPut l a b n) := by
  unfold spec_BalPut.f
  have no : ¬ (okB l = true ∧ No a ∧ No b ∧ Amt n) → Ev (fun k => spec_BalPut.j0 k l a b n true) (balPut l a b n) := fun h => by
    unfold balPut
    rw [if_neg h]
    exact Ev_one fun k => by simp only [spec_BalPut.j0]; rw [if_pos trivial]
  refine Ev_bind (balsOk_s l) ?_
  by_cases h1 : okB l = true
  · refine Ev.congr (fun k => by rw [if_pos h1, no_s, Option.bind_some]) ?_
    by_cases h2 : No a
    · refine Ev.congr (fun k => by rw [if_pos (decide_eq_true h2), no_s, Option.bind_some]) ?_
      by_cases h3 : No b
      · refine Ev.congr (fun k => by rw [if_pos (decide_eq_true h3), amt_s, Option.bind_some]) ?_
        by_cases h4 : Amt n
        · rw [decide_eq_true h4]
          refine Ev.step (fun k => by simp only [spec_BalPut.j0]; rw [if_neg (by decide)]) ?_
          have hs := ((okB_sort l).1 ((okB_iff l).1 h1)).2
          refine Ev_bind (put_s hs a b n hm) (Ev_bind (balsOk_s _) ?_)
          have hbp : balPut l a b n = if (putB l a b n).length ≤ 160 then (putB l a b n, true) else ([], false) := if_pos ⟨h1, h2, h3, h4⟩
          rw [hbp]
          by_cases h5 : (putB l a b n).length ≤ 160
          · rw [if_pos h5, (okB_iff _).2 ((okB_sort _).2 ⟨h5, putB_sort hs h2 h3 h4⟩)]
            exact Ev_all_k fun k => rfl
          · rw [if_neg h5, okB_no fun g => h5 g.1]
            exact Ev_all_k fun k => rfl
        · rw [decide_eq_false h4]
          exact no fun g => h4 g.2.2.2
      · exact Ev.congr (fun k => if_neg (by rw [decide_eq_false h3]; decide)) (no fun g => h3 g.2.2.1)
    · exact Ev.congr (fun k => if_neg (by rw [decide_eq_false h2]; decide)) (no fun g => h2 g.2.1)
  · exact Ev.congr (fun k => if_neg h1) (no fun g => h1 g.1)
end Go.Proofs.Ytpcjpjjkaplebaa.B4
namespace Go.Proofs.Ytpcjpjjkaplebaa.T1
open Go Go.RowKit Go.Proofs.Ytpcjpjjkaplebaa.P Go.Proofs.YtpcjpjjkaplebaaW.PrintWords Go.Proofs.YtpcjpjjkaplebaaW.PrintLast Go.Proofs.Ytpcjpjjkaplebaa.EV
def cvBal (x : S66) : S58 := ⟨x.f0, x.f1, x.f2⟩
theorem sz_Bal  (l : List S66) (left : Int) (h0 : 0 ≤ left) (h1 : left ≤ 1048576) (hm : l.length ≤ 9223372036854775807) : laws_szBalS.f l left = some (if left < (l.length : Int) then -1 else left - l.length) := by
  unfold laws_szBalS.f
  rw [w64_in _ (by omega) (by omega)]
  by_cases h : left < (l.length : Int)
  · rw [if_pos h, if_pos (by omega)]
  · rw [if_neg h, if_neg (by omega)]
theorem rd1_Bal (l : List S66) (i : Nat) : rd_T66 l (i : Int) = l.getD i z66 := by unfold rd_T66; rw [Int.toNat_natCast]
theorem to_Bal  (l : List S66) (hl : l.length ≤ 1048576) : Ev (fun k => laws_toBalS.f k l) (l.map cvBal) := by
  unfold laws_toBalS.f
  have h := Ev_goes (fun k s i => laws_toBalS.l0 k l s i) l.length (fun i s => s.take i ++ (l.drop i).map cvBal) (fun i s => s.length = l.length)
    (fun s hs => Ev_one fun k => by
      simp only [laws_toBalS.l0]
      rw [if_neg (by omega), List.drop_length, List.map_nil, List.append_nil, ← hs, List.take_length])
    (fun i s hi hs => .inr ⟨s.set i (cvBal (l.getD i z66)), by rw [List.length_set]; exact hs, by
        rw [List.take_add_one, List.take_set_of_le (Nat.le_refl i), List.getElem?_set_self (by omega), List.drop_eq_getElem_cons hi, List.map_cons]
        have : l.getD i z66 = l[i] := by rw [List.getD_eq_getElem?_getD, List.getElem?_eq_getElem hi]; rfl
        rw [this]
        simp, fun k => by
        show laws_toBalS.l0 (k + 1) l s (i : Int) = _
        simp only [laws_toBalS.l0]
        rw [if_pos (by omega), if_pos (by omega), w_succ hi (by omega)]
        simp only [laws_toBal.f, Option.bind_some, rd1_Bal]
        rw [if_pos (by omega)]
        simp only [Int.toNat_natCast]
        rfl⟩) l.length 0 (List.replicate l.length z58) (by omega) (by omega) (by simp)
  refine Ev.congr (fun k => ?_) h
  rw [if_pos (by omega), if_pos (by omega)]
  rfl
theorem eq1_Bal (x : S58) : laws_eqBal.f x.f0 x.f1 x.f2 x.f0 x.f1 x.f2 = some true := by unfold laws_eqBal.f; simp
theorem eq_Bal (l : List S58) (hl : l.length ≤ 9223372036854775807) : Ev (fun k => laws_eqBalS.f k l l) true := by
  unfold laws_eqBalS.f
  obtain ⟨r, hr, hiff⟩ := Ev_asks (fun k i => laws_eqBalS.l0 k l l i) l.length (fun _ => True) true
    (Ev_one fun k => by simp only [laws_eqBalS.l0]; rw [if_neg (by omega)])
    (fun i hi => .inl ⟨trivial, fun k => by
      show laws_eqBalS.l0 (k + 1) l l (i : Int) = _
      simp only [laws_eqBalS.l0]
      rw [if_pos (by omega), if_pos (by omega), if_pos (by omega), w_succ hi (by omega)]
      simp only [eq1_Bal, Option.bind_some, if_true]⟩) l.length 0 (by omega) (by omega)
  obtain rfl : r = true := hiff.2 ⟨fun _ _ _ => trivial, rfl⟩
  refine Ev.congr (fun k => ?_) hr
  rw [if_pos rfl]
  rfl
end Go.Proofs.Ytpcjpjjkaplebaa.T1
namespace Go.Proofs.Ytpcjpjjkaplebaa.M1
open Go Go.RowKit Go.Proofs.Ytpcjpjjkaplebaa.P Go.Proofs.YtpcjpjjkaplebaaW.PrintWords Go.Proofs.YtpcjpjjkaplebaaW.PrintLast Go.Proofs.Ytpcjpjjkaplebaa.EV
theorem set_set_getD {α : Type} (l : List α) (i : Nat) (x z : α) (h : i < l.length) : (l.set i x).getD i z = x := by rw [getD_set, if_pos ⟨rfl, h⟩]
theorem set_set_eq {α : Type} (l : List α) (i : Nat) (x y : α) : (l.set i x).set i y = l.set i y := List.set_set ..
def mkBal (c : Int) (n : Nat) : List S58 := (List.range n).map fun (j : Nat) => (⟨c + 3 * (j : Int), c + 3 * (j : Int) + 1, c + 3 * (j : Int) + 2⟩ : S58)
theorem mkBal_len (c : Int) (n : Nat) : (mkBal c n).length = n := by unfold mkBal; simp
theorem mkBal_at (c : Int) (n j : Nat) (h : j < n) : (mkBal c n).getD j z58 = ⟨c + 3 * (j : Int), c + 3 * (j : Int) + 1, c + 3 * (j : Int) + 2⟩ := by
  unfold mkBal
  rw [List.getD_eq_getElem?_getD, List.getElem?_map, List.getElem?_range h]
  rfl
theorem rdM_Bal (l : List S58) (i : Nat) : rd_T58 l (i : Int) = l.getD i z58 := by unfold rd_T58; rw [Int.toNat_natCast]
theorem mark_Bal (l : List S58) (c : Int) (h0 : 0 ≤ c) (h1 : c ≤ 1000000000000) (hl : l.length ≤ 1048577) : Ev (fun k => laws_markBalS.f k l c) (c + 3 * (l.length : Int), mkBal c l.length) := by
  unfold laws_markBalS.f
  have h := Ev_goes (fun k (s : List S58 × Int) i => laws_markBalS.l0 k s.1 s.2 i) l.length (fun _ _ => (c + 3 * (l.length : Int), mkBal c l.length)) (fun i s => s.1.length = l.length ∧ s.2 = c + 3 * (i : Int) ∧ ∀ j, j < i → s.1.getD j z58 = ⟨c + 3 * (j : Int), c + 3 * (j : Int) + 1, c + 3 * (j : Int) + 2⟩)
    (fun s hs => Ev_one fun k => by
      obtain ⟨s1, s2, s3⟩ := hs
      simp only [laws_markBalS.l0]
      rw [if_neg (by omega), s2]
      congr 2
      refine ext_getD z58 (by rw [mkBal_len, s1]) fun i hi => ?_
      rw [s3 i (by omega), mkBal_at _ _ _ (by omega)])
    (fun i s hi hs => by
      obtain ⟨s1, s2, s3⟩ := hs
      obtain ⟨l1, x⟩ := s
      dsimp only at s1 s2 s3
      refine .inr ⟨(l1.set i (⟨c + 3 * (i : Int), c + 3 * (i : Int) + 1, c + 3 * (i : Int) + 2⟩ : S58), c + 3 * ((i + 1 : Nat) : Int)), ⟨by rw [List.length_set]; exact s1, rfl, fun j hj => ?_⟩, rfl, fun k => ?_⟩
      · rw [getD_set]
        by_cases e : i = j
        · subst e
          rw [if_pos ⟨rfl, by omega⟩]
        · rw [if_neg (fun g => e g.1)]
          exact s3 j (by omega)
      · show laws_markBalS.l0 (k + 1) l1 x (i : Int) = _
        simp only [laws_markBalS.l0]
        rw [if_pos (by omega), if_pos (by omega), w_succ hi (by omega)]
        simp only [Option.bind_some, rdM_Bal, Int.toNat_natCast, set_set_eq, set_set_getD l1 i _ z58 (show i < l1.length by omega)]
        subst s2
        have w0 : wrap64 (c + 3 * (i : Int) + 1) = c + 3 * (i : Int) + 1 := by unfold wrap64; omega
        have w1 : wrap64 (c + 3 * (i : Int) + 1 + 1) = c + 3 * (i : Int) + 2 := by unfold wrap64; omega
        have w2 : wrap64 (c + 3 * (i : Int) + 2 + 1) = c + 3 * (i : Int) + 3 := by unfold wrap64; omega
        simp only [w0, w1, w2]
        have e2 : c + 3 * ((i + 1 : Nat) : Int) = c + 3 * (i : Int) + 3 := by omega
        rw [e2]) l.length 0 (l, c) (by omega) (by omega) ⟨rfl, by omega, fun j hj => by omega⟩
  exact h
theorem held_Bal (n : Nat) (c : Int) (h0 : 0 ≤ c) (h1 : c ≤ 1000000000000) (hl : n ≤ 1048577) : Ev (fun k => laws_heldBalS.f k (mkBal c n) c) (c + 3 * (n : Int)) := by
  unfold laws_heldBalS.f
  have h := Ev_goes (fun k (s : Int) i => laws_heldBalS.l0 k (mkBal c n) s i) n (fun _ _ => c + 3 * (n : Int)) (fun i s => s = c + 3 * (i : Int))
    (fun s hs => Ev_one fun k => by
      simp only [laws_heldBalS.l0]
      rw [if_neg (by rw [mkBal_len]; omega), hs])
    (fun i s hi hs => by
      refine .inr ⟨c + 3 * ((i + 1 : Nat) : Int), rfl, rfl, fun k => ?_⟩
      show laws_heldBalS.l0 (k + 1) (mkBal c n) s (i : Int) = _
      subst hs
      simp only [laws_heldBalS.l0]
      rw [if_pos (by rw [mkBal_len]; omega), if_pos (by omega), w_succ hi (by omega)]
      simp only [rdM_Bal, mkBal_at c n i hi]
      have w0 : wrap64 (c + 3 * (i : Int) + 1) = c + 3 * (i : Int) + 1 := by unfold wrap64; omega
      have w1 : wrap64 (c + 3 * (i : Int) + 1 + 1) = c + 3 * (i : Int) + 2 := by unfold wrap64; omega
      have w2 : wrap64 (c + 3 * (i : Int) + 2 + 1) = c + 3 * (i : Int) + 3 := by unfold wrap64; omega
      simp only [w0, w1, w2]
      have e2 : c + 3 * ((i + 1 : Nat) : Int) = c + 3 * (i : Int) + 3 := by omega
      rw [if_pos trivial, if_pos trivial, if_pos trivial, e2]) n 0 c (by omega) (by omega) (by omega)
  exact h
end Go.Proofs.Ytpcjpjjkaplebaa.M1
namespace Go.Proofs.Ytpcjpjjkaplebaa.Pure
open Go Go.RowKit Go.Proofs.Ytpcjpjjkaplebaa.P Go.Proofs.YtpcjpjjkaplebaaW.PrintWords Go.Proofs.YtpcjpjjkaplebaaW.PrintLast Go.Proofs.Ytpcjpjjkaplebaa.EV Go.Proofs.Ytpcjpjjkaplebaa.I1 Go.Proofs.Ytpcjpjjkaplebaa.N1 Go.Proofs.Ytpcjpjjkaplebaa.B1 Go.Proofs.Ytpcjpjjkaplebaa.B2 Go.Proofs.Ytpcjpjjkaplebaa.B3 Go.Proofs.Ytpcjpjjkaplebaa.B4 Go.Proofs.Ytpcjpjjkaplebaa.T1 Go.Proofs.Ytpcjpjjkaplebaa.M1
theorem FnExactBalPut : ∀ (l0 : List (S66)) (a1 : Int) (a2 : Int) (a3 : Int), l0.length ≤ 9223372036854775807 → (∀ x ∈ l0, (Lit.int .i64 x.f0).wf = true ∧ (Lit.int .i64 x.f1).wf = true ∧ (Lit.int .i64 x.f2).wf = true) → (Lit.int .i64 a1).wf = true → (Lit.int .i64 a2).wf = true → (Lit.int .i64 a3).wf = true → ∃ k, laws_FnExactBalPut.f k l0 a1 a2 a3 = some true := by
  intro l a b n hm0 _ _ _ _
  refine Ev.rounds ?_
  unfold laws_FnExactBalPut.f
  by_cases hl : 1048576 < l.length
  · exact Ev_all_k fun k => by rw [sz_Bal l 1048576 (by decide) (by decide) hm0, if_pos (by omega), Option.bind_some, if_pos (by decide)]
  · have hm : l.length ≤ 1048576 := by omega
    have hc : (l.map cvBal).length ≤ 1048576 := by rw [List.length_map]; exact hm
    refine Ev.congr (fun k => by rw [sz_Bal l 1048576 (by decide) (by decide) (by omega), if_neg (by omega), Option.bind_some, if_neg (by omega)]) ?_
    obtain ⟨o, ho⟩ : ∃ o, o = balPut (l.map cvBal) a b n := ⟨_, rfl⟩
    have hS : Ev (fun k => spec_BalPut.f k (l.map cvBal) a b n) o := by rw [ho]; exact balPut_s _ a b n hc
    have hI : Ev (fun k => impl_BalPut.f k (l.map cvBal) a b n) o := by rw [ho]; exact balPut_i _ a b n hc
    have ol : o.1.length ≤ 1048577 := by have := balPut_len (l.map cvBal) a b n; rw [ho]; omega
    have hb : (o.2 != o.2) = false := by simp
    refine Ev_bind (to_Bal l hm) (Ev_bind hS (Ev_bind (to_Bal l hm) (Ev_bind hI (Ev_bind (eq_Bal o.1 (by omega)) ?_))))
    refine Ev.congr (fun k => by rw [if_pos rfl, hb]) ?_
    refine Ev.step (fun k => by simp only [laws_FnExactBalPut.j0]; rw [if_neg (by decide)]) ?_
    refine Ev_bind (to_Bal l hm) (Ev_bind (eq_Bal _ (by omega)) ?_)
    refine Ev.congr (fun k => if_pos rfl) ?_
    refine Ev_bind (mark_Bal _ 1 (by decide) (by decide) (by omega)) ?_
    refine Ev.congr (fun k => if_neg (by show ¬ ((1 : Int) + 3 * ((l.map cvBal).length : Int) < 0); omega)) ?_
    refine Ev_bind (eq_Bal o.1 (by omega)) ?_
    refine Ev.congr (fun k => by rw [if_pos rfl, hb]) ?_
    refine Ev.step (fun k => by simp only [laws_FnExactBalPut.j1]; rw [if_neg (by decide)]) ?_
    refine Ev_bind (mark_Bal o.1 1 (by decide) (by decide) ol) (Ev_bind (held_Bal o.1.length 1 (by decide) (by decide) ol) ?_)
    refine Ev.congr (fun k => (if_neg (by show ¬ ((1 : Int) + 3 * (o.1.length : Int) < 0); omega)).trans (if_pos rfl)) ?_
    refine Ev_bind (to_Bal l hm) (Ev_bind hI (Ev_bind (eq_Bal o.1 (by omega)) ?_))
    refine Ev.congr (fun k => by rw [if_pos rfl, hb]) ?_
    refine Ev.step (fun k => by simp only [laws_FnExactBalPut.j2]; rw [if_neg (by decide)]) ?_
    refine Ev_bind (held_Bal o.1.length 1 (by decide) (by decide) ol) ?_
    exact Ev_all_k fun k => by rw [if_neg (by omega), if_pos rfl]
end Go.Proofs.Ytpcjpjjkaplebaa.Pure
namespace Go.Proofs.Ytpcjpjjkaplebaa.RS
open Go Go.ChangeShapes Go.WideShapes Go.Deep Go.RowKit Go.Proofs.YtpcjpjjkaplebaaW.PrintWords
def allInts (P : Program) (fs : Array Field) : Bool := (List.range fs.size).all fun i => match fs[i]? with
  | some f => (match P.underlying f.type with | some (.int .i64) => true | _ => false)
  | none => false
theorem allInts_of {P : Program} {fs : Array Field} (h : allInts P fs = true) : ∀ (i : Nat) (f : Field), fs[i]? = some f → P.underlying f.type = some (.int .i64) := by
  intro i f hi
  have hlt : i < fs.size := (Array.getElem?_eq_some_iff.1 hi).1
  have z := List.all_eq_true.1 h i (List.mem_range.2 hlt)
  simp only [hi] at z
  split at z
  · assumption
  · cases z
section
variable {H : Type} {enc : TypeId × Value → H} {P : Program} {w : World} {base : Nat} {spare : Nat → Bool} {held : Bool}
theorem open_rows {t e : TypeId} {fs : Array Field} {fuel : Nat} {v : Value} {x : DataW H × List MemPlace} (ht : P.underlying t = some (.slice e)) (he : P.underlying e = some (.struct fs))
    (hone : oneCellFields P fs = true) (hint : allInts P fs = true) (hC : P.cellsOf e = fs.size) (h : DataW.trod enc P w base spare held fuel t [v] = some x) :
    ∃ (A : Option Addr) (len cap : Nat) (X : Nat → Nat → Int), v = .slice A len cap ∧ len ≤ cap ∧ cap ≤ maxLen ∧
      (0 < len → ∃ ad, A = some ad ∧ ∀ i, i < len → ∀ j, j < fs.size → w.cell? (ad.add (i * fs.size + j)) = some (.int .i64 (X i j)) ∧ (Lit.int .i64 (X i j)).wf = true) := by
  rcases open_slice ht h with ⟨hcs, _⟩ | ⟨a, len, cap, m, n, D, Pl, hcs, _, hl, hm, hmm, _, hi⟩
  · simp only [List.cons.injEq, and_true] at hcs
    exact ⟨none, 0, 0, fun _ _ => 0, hcs, Nat.le_refl _, Nat.zero_le _, fun hp => absurd hp (Nat.lt_irrefl 0)⟩
  · simp only [List.cons.injEq, and_true] at hcs
    have hmle : len ≤ m := by rw [hmm]; split <;> omega
    have key : ∀ i, i < len → ∃ f : Nat → Int, ∀ j, j < fs.size → w.cell? (a.add (i * fs.size + j)) = some (.int .i64 (f j)) ∧ (Lit.int .i64 (f j)).wf = true := by
      intro i him
      obtain ⟨cs', hc, ht'⟩ := hi i (by omega)
      rw [hC] at hc
      obtain ⟨ys, n', hn', hy, hlen, hyl, hf⟩ := DataW.trod_struct he ht'
      obtain ⟨_, hcl, hat⟩ := World.cells?_some hc
      refine choose_lt (α := Int) (n := fs.size) (p := fun j q => w.cell? (a.add (i * fs.size + j)) = some (.int .i64 q) ∧ (Lit.int .i64 q).wf = true) fun j hj => ?_
      have hfj : fs[j]? = some fs[j] := Array.getElem?_eq_getElem hj
      obtain ⟨ho, hk⟩ := hone_of hone j _ hfj
      have h1 := hf j _ hfj
      rw [ho, hk, take1_drop cs' j undef (by omega)] at h1
      have hys : ys[j]? = some (ys[j]'(by omega)) := List.getElem?_eq_getElem (by omega)
      rw [hys] at h1
      obtain ⟨q, hq, _, hwf⟩ := DataW.trod_int (allInts_of hint j _ hfj) h1
      simp only [List.cons.injEq, and_true] at hq
      have hcell := hat j (by omega)
      rw [List.getElem?_eq_getElem (by omega)] at hcell
      have hgd : cs'.getD j undef = cs'[j]'(by omega) := by
        rw [List.getD_eq_getElem?_getD, List.getElem?_eq_getElem (by omega), Option.getD_some]
      rw [hgd] at hq
      exact ⟨q, by rw [← Go.Deep.add_add, hcell, hq], hwf⟩
    obtain ⟨X, hX⟩ := choose_lt (α := Nat → Int) (n := len) (p := fun i f => ∀ j, j < fs.size → w.cell? (a.add (i * fs.size + j)) = some (.int .i64 (f j)) ∧ (Lit.int .i64 (f j)).wf = true) key
    exact ⟨some a, len, cap, X, hcs, hl, hm, fun _ => ⟨a, rfl, fun i him => hX i him⟩⟩
end
theorem getD_range {α : Type} (n : Nat) (f : Nat → α) (i : Nat) (p : α) (h : ((List.range n).map f)[i]? = some p) : i < n ∧ p = f i := by
  have hi := (List.getElem?_eq_some_iff.1 h).1
  simp only [List.length_map, List.length_range] at hi
  refine ⟨hi, ?_⟩
  rw [List.getElem?_map, List.getElem?_range hi] at h
  simpa using h.symm
theorem mem_map_range {α : Type} {n : Nat} {f : Nat → α} {x : α} (h : x ∈ (List.range n).map f) : ∃ i, i < n ∧ x = f i := by
  obtain ⟨i, hi, rfl⟩ := List.mem_map.1 h
  exact ⟨i, List.mem_range.1 hi, rfl⟩
end Go.Proofs.Ytpcjpjjkaplebaa.RS
namespace Go.Proofs.Ytpcjpjjkaplebaa.RT
open Go Go.RowKit Go.Proofs.Ytpcjpjjkaplebaa.P Go.Proofs.YtpcjpjjkaplebaaW.PrintWords Go.Proofs.YtpcjpjjkaplebaaW.PrintLast
theorem row66 {W : World} {A : Option Addr} {len : Nat} {X : Nat → Nat → Int} (hm : len ≤ maxLen) (hx : 0 < len → ∃ ad, A = some ad ∧ ∀ i, i < len → ∀ j, j < 3 → W.cell? (ad.add (i * 3 + j)) = some (.int .i64 (X i j)) ∧ (Lit.int .i64 (X i j)).wf = true) :
    ∃ l : List S66, len = l.length ∧ Kd.C k66 W A l.length l ∧ ∀ x ∈ l, (Lit.int .i64 x.f0).wf = true ∧ (Lit.int .i64 x.f1).wf = true ∧ (Lit.int .i64 x.f2).wf = true := by
  refine ⟨(List.range len).map fun i => (⟨X i 0, X i 1, X i 2⟩ : S66), by simp, ⟨rfl, by simp only [List.length_map, List.length_range]; exact hm, fun hn => ?_⟩, fun x hxm => ?_⟩
  · obtain ⟨ad, e, hc⟩ := hx (by simpa using hn)
    refine ⟨ad, e, fun j p hj => ⟨_, rfl, k66_mk W p, fun i u hu => ?_⟩⟩
    obtain ⟨hjl, rfl⟩ := RS.getD_range _ _ _ _ hj
    have hi : i < 3 := (List.getElem?_eq_some_iff.1 hu).1
    have hcell := (hc j hjl i hi).1
    match i, hi, hu, hcell with
    | 0, _, hu, hcell => exact hcell.trans hu
    | 1, _, hu, hcell => exact hcell.trans hu
    | 2, _, hu, hcell => exact hcell.trans hu
  · obtain ⟨i, hi, rfl⟩ := RS.mem_map_range hxm
    obtain ⟨ad, e, hc⟩ := hx (by omega)
    exact ⟨(hc i hi 0 (by decide)).2, (hc i hi 1 (by decide)).2, (hc i hi 2 (by decide)).2⟩
end Go.Proofs.Ytpcjpjjkaplebaa.RT
namespace Go.Proofs.Ytpcjpjjkaplebaa.fnExactBalPut
open Go.ChangeShapes Go.WideShapes Go.ChangeAt Go.RowKit Go.Proofs.YtpcjpjjkaplebaaW.PrintWords
open Go.ChangeMaps (open_string shut_string)
set_option linter.unusedVariables false
theorem own : ownKnob Try.prog.godebug = none := by kernel_rfl
theorem laidOut : laidOutB Try.prog = true := by kernel_rfl
set_option maxRecDepth 100000 in
theorem lifted (os : Os) (started : os.Started) (H : Type) (enc : TypeId × Value → H) :
    ReturnsInHanded {} Try.checked os 7 .any (Rows.fnExactBalPutSpec.pre6 enc Try.prog Try.f7 Rows.fnExactBalPutRow.domain false) (Rows.fnExactBalPutSpec.post enc Try.prog Try.f7 false true false false) := by
  refine returnsInHanded_of_change_sized (C := Try.checked) own started (by kernel_rfl) Try.func7
    (ChangeSpec.witness6 (enc := enc) (C := Try.checked) false ⟨#[], #[.slice none 0 0, .int .i64 0, .int .i64 0, .int .i64 0], []⟩ 8 (by kernel_rfl) (by kernel_rfl) (by kernel_rfl) (by kernel_rfl)) ?_
  intro W base args ds gs before hval0 hW hcnd hsz0 _
  have hsz : (DataW.weightsEach Try.prog (Try.f7.params.toList ++ Rows.fnExactBalPutSpec.plain.varTypes Try.prog) (ds ++ gs)).all (· ≤ reachBytes) = true := hsz0
  have hval : ∀ (j : Nat) t v, Try.f7.params[j]? = some t → args[j]? = some v → Value.okWide Try.prog W .any base t v := hval0
  have hW' := hW
  obtain ⟨p, q, hA0, hV, rfl, hfz, hnd⟩ := hW
  have hA : DataW.TrodAll enc Try.prog W 0 (fun _ => true) true Try.f7.params.toList args.toList ds p := hA0
  rw [Try.params7] at hA hval hsz
  obtain ⟨v0, vs0, d0, ds0, p0, q0, hargs, rfl, rfl, h0, r0⟩ := trodAll_cons hA
  obtain ⟨v1, vs1, d1, ds1, p1, q1, rfl, rfl, rfl, h1, r1⟩ := trodAll_cons r0
  obtain ⟨v2, vs2, d2, ds2, p2, q2, rfl, rfl, rfl, h2, r2⟩ := trodAll_cons r1
  obtain ⟨v3, vs3, d3, ds3, p3, q3, rfl, rfl, rfl, h3, r3⟩ := trodAll_cons r2
  obtain ⟨rfl, rfl, rfl⟩ := trodAll_nil r3
  obtain rfl : args = #[v0, v1, v2, v3] := by cases args; simp_all
  obtain ⟨rfl, rfl⟩ := trodVars_none hV
  obtain ⟨a0, len0, cap0, rfl⟩ := okWide_slice Try.underlying22 (hval 0 22 v0 rfl rfl)
  have k0 := h0
  have lt0 : ∀ x ∈ p0, x.block < W.heap.size := by obtain ⟨m, hm⟩ := k0; exact DataW.trod_lt m _ _ _ hm
  obtain ⟨fu0, hf0⟩ := h0
  obtain ⟨A0, n0, c0, X0, hv0, hl0, hm0, hx0⟩ := RS.open_rows Try.underlying22 Try.underlying66 (by kernel_rfl) (by kernel_rfl) (by kernel_rfl) (v := .slice a0 len0 cap0) hf0
  obtain ⟨rfl, rfl, rfl⟩ := Value.slice.inj hv0
  obtain ⟨l0, e0, hr0, hw0⟩ := RT.row66 (Nat.le_trans hl0 hm0) hx0
  subst e0
  obtain ⟨a1, rfl, rfl, rfl, w1⟩ := open_int Try.underlying3 (hval 1 3 v1 rfl rfl) h1
  obtain ⟨a2, rfl, rfl, rfl, w2⟩ := open_int Try.underlying3 (hval 2 3 v2 rfl rfl) h2
  obtain ⟨a3, rfl, rfl, rfl, w3⟩ := open_int Try.underlying3 (hval 3 3 v3 rfl rfl) h3
  clear hA0 hval0 hsz0 hsz
  obtain ⟨k, hpure⟩ := Pure.FnExactBalPut l0 a1 a2 a3 (Kd.C_max hr0) hw0 w1 w2 w3
  refine (P.laws_FnExactBalPut.calls k _ _ l0 a1 a2 a3 true W hr0 hl0 hpure).mono fun e W' hpost => ?_
  obtain ⟨he, hd⟩ := hpost
  have bel : Below W.heap.size W W' := hd
  subst he
  exact ⟨_, rfl, _, _, _, [], _, [], hW', trodAll_mk1 (shut_bool Try.underlying4 _), (trodAll_cons_mk (Below.trod laidOut (by kernel_rfl) (of_decide_eq_true (by kernel_rfl)) k0 bel lt0) (trodAll_cons_mk (shut_int Try.underlying3 w1) (trodAll_cons_mk (shut_int Try.underlying3 w2) (trodAll_cons_mk (shut_int Try.underlying3 w3) trodAll_mk0)))), rfl, bel.frame _, fun h => by cases h⟩
theorem over : Rows.fnExactBalPutRow.holds Try.pinned (OpenSpec.ofChange Rows.fnExactBalPutSpec) :=
  OpenClaim.holds_of_wide 7 Try.f7 rfl rfl rfl rfl rfl rfl rfl ⟨rfl, rfl, rfl, rfl, rfl⟩ rfl rfl rfl rfl rfl (by kernel_rfl) Try.func7 (by kernel_rfl)
    (of_decide_eq_true (by kernel_rfl)) (by unfold Func.isWrapper; first | (rw [if_pos (by decide +kernel)]; kernel_rfl) | (rw [if_neg (by decide +kernel)]; exact ⟨rfl, rfl⟩))
    (fun os started H enc _ => lifted os started H enc)
theorem proved : Rows.FnExactBalPutSaid := over
#print axioms proved
end Go.Proofs.Ytpcjpjjkaplebaa.fnExactBalPut
namespace Go.Proofs.Ytpcjpjjkaplebaa
theorem fnExactBalPut_holds : Rows.FnExactBalPutSaid := fnExactBalPut.proved
end Go.Proofs.Ytpcjpjjkaplebaa
