/- BookIssue of the program and of the reference agree at all books and numbers; no condition but that they are ints. -/
import Derived.Test.YtmfgajbkcnlkcaaGreatZFnExactBookIssue5
import Derived.Deep.Slices
import Derived.Deep.Fields
import Derived.ChangeSame
import Derived.ChangeShapes
import Derived.WideShapes
import Derived.SizedLaws
import Derived.Test.YtmfgajbkcnlkcaaGreatRows
import Derived.WalkKit
import Derived.ProofKit
import Derived.OpenShut
import Derived.ShutString
import Derived.ChangeOld
import Derived.Below
import Derived.Carry
namespace Go.Proofs.YtmfgajbkcnlkcaaGreat.P
end Go.Proofs.YtmfgajbkcnlkcaaGreat.P
namespace Go.Proofs.YtmfgajbkcnlkcaaGreat.EV
end Go.Proofs.YtmfgajbkcnlkcaaGreat.EV
namespace Go.Proofs.YtmfgajbkcnlkcaaGreat.I1
end Go.Proofs.YtmfgajbkcnlkcaaGreat.I1
namespace Go.Proofs.YtmfgajbkcnlkcaaGreat.N1
end Go.Proofs.YtmfgajbkcnlkcaaGreat.N1
namespace Go.Proofs.YtmfgajbkcnlkcaaGreat.B1
end Go.Proofs.YtmfgajbkcnlkcaaGreat.B1
namespace Go.Proofs.YtmfgajbkcnlkcaaGreat.B2
end Go.Proofs.YtmfgajbkcnlkcaaGreat.B2
namespace Go.Proofs.YtmfgajbkcnlkcaaGreat.B3
end Go.Proofs.YtmfgajbkcnlkcaaGreat.B3
namespace Go.Proofs.YtmfgajbkcnlkcaaGreat.B4
end Go.Proofs.YtmfgajbkcnlkcaaGreat.B4
namespace Go.Proofs.YtmfgajbkcnlkcaaGreat.G1
end Go.Proofs.YtmfgajbkcnlkcaaGreat.G1
namespace Go.Proofs.YtmfgajbkcnlkcaaGreat.B5
end Go.Proofs.YtmfgajbkcnlkcaaGreat.B5
namespace Go.Proofs.YtmfgajbkcnlkcaaGreat.E1
end Go.Proofs.YtmfgajbkcnlkcaaGreat.E1
namespace Go.Proofs.YtmfgajbkcnlkcaaGreat.E2
end Go.Proofs.YtmfgajbkcnlkcaaGreat.E2
namespace Go.Proofs.YtmfgajbkcnlkcaaGreat.E3
end Go.Proofs.YtmfgajbkcnlkcaaGreat.E3
namespace Go.Proofs.YtmfgajbkcnlkcaaGreat.BC
end Go.Proofs.YtmfgajbkcnlkcaaGreat.BC
namespace Go.Proofs.YtmfgajbkcnlkcaaGreat.C1
end Go.Proofs.YtmfgajbkcnlkcaaGreat.C1
namespace Go.Proofs.YtmfgajbkcnlkcaaGreat.C2
end Go.Proofs.YtmfgajbkcnlkcaaGreat.C2
namespace Go.Proofs.YtmfgajbkcnlkcaaGreat.T1
end Go.Proofs.YtmfgajbkcnlkcaaGreat.T1
namespace Go.Proofs.YtmfgajbkcnlkcaaGreat.T2
end Go.Proofs.YtmfgajbkcnlkcaaGreat.T2
namespace Go.Proofs.YtmfgajbkcnlkcaaGreat.K1
end Go.Proofs.YtmfgajbkcnlkcaaGreat.K1
namespace Go.Proofs.YtmfgajbkcnlkcaaGreat.BK
end Go.Proofs.YtmfgajbkcnlkcaaGreat.BK
namespace Go.Proofs.YtmfgajbkcnlkcaaGreat.BA
end Go.Proofs.YtmfgajbkcnlkcaaGreat.BA
namespace Go.Proofs.YtmfgajbkcnlkcaaGreat.BI
end Go.Proofs.YtmfgajbkcnlkcaaGreat.BI
namespace Go.Proofs.YtmfgajbkcnlkcaaGreat.B3
open Go Go.RowKit Go.Proofs.YtmfgajbkcnlkcaaGreat.P Go.Proofs.YtmfgajbkcnlkcaaGreatW.PrintWords Go.Proofs.YtmfgajbkcnlkcaaGreatW.PrintLast Go.Proofs.YtmfgajbkcnlkcaaGreat.EV Go.Proofs.YtmfgajbkcnlkcaaGreat.I1 Go.Proofs.YtmfgajbkcnlkcaaGreat.N1 Go.Proofs.YtmfgajbkcnlkcaaGreat.B1 Go.Proofs.YtmfgajbkcnlkcaaGreat.B2
theorem take_getD {α : Type} (z : α) (l : List α) (i : Nat) (h : i < l.length) : l.take (i + 1) = l.take i ++ [l.getD i z] := by
  rw [List.take_add_one, List.getD_eq_getElem?_getD, List.getElem?_eq_getElem h]
  rfl
theorem getD_drop {α : Type} (z : α) (l : List α) (p i : Nat) : (l.drop p).getD i z = l.getD (p + i) z := by
  rw [List.getD_eq_getElem?_getD, List.getElem?_drop, List.getD_eq_getElem?_getD]
theorem getD_get {α : Type} (z : α) (l : List α) (i : Nat) (h : i < l.length) : l.getD i z = l[i] := by
  rw [List.getD_eq_getElem?_getD, List.getElem?_eq_getElem h]
  rfl
abbrev Lt (x y : SB) : Prop := Bef x.f0 x.f1 y.f0 y.f1
def Good1 (x : SB) : Prop := No x.f0 ∧ No x.f1 ∧ Amt x.f2 ∧ x.f2 ≠ 0
def SortB (l : List SB) : Prop := (∀ x ∈ l, Good1 x) ∧ l.Pairwise Lt
theorem sortB_good {l : List SB} (h : SortB l) : ∀ j, j < l.length → GoodB l j := by
  intro j hj
  have g : Good1 (l.getD j z106) := by rw [getD_get _ l j hj]; exact h.1 _ (List.getElem_mem hj)
  refine ⟨g.1, g.2.1, g.2.2.1, g.2.2.2, fun h0 => ?_⟩
  rw [getD_get _ l j hj, getD_get _ l (j - 1) (by omega)]
  exact List.pairwise_iff_getElem.1 h.2 (j - 1) j (by omega) hj (by omega)
theorem good_sortB {l : List SB} (h : ∀ j, j < l.length → GoodB l j) : SortB l := by
  refine ⟨fun x hx => ?_, List.pairwise_iff_getElem.2 fun i j hi hj hij => ?_⟩
  · obtain ⟨j, hj, rfl⟩ := List.getElem_of_mem hx
    have g := h j hj
    unfold GoodB at g
    rw [getD_get _ l j hj] at g
    exact ⟨g.1, g.2.1, g.2.2.1, g.2.2.2.1⟩
  · have g := B2.ahead h (j - i) i j rfl hij hj
    rw [getD_get _ l j hj, getD_get _ l i hi] at g
    exact g
theorem okB_sort (l : List SB) : OkB l ↔ l.length ≤ 160 ∧ SortB l := ⟨fun h => ⟨h.1, good_sortB h.2⟩, fun h => ⟨h.1, sortB_good h.2⟩⟩
def key (x : SB) (a b : Int) : Prop := x.f0 = a ∧ x.f1 = b
instance (x : SB) (a b : Int) : Decidable (key x a b) := by unfold key; exact inferInstance
theorem atB_skip (a b : Int) : ∀ (l : List SB) (i j : Nat), i + j < (atB a b l i).1 → Bef (l.getD j z106).f0 (l.getD j z106).f1 a b
  | [], i, j, h => by unfold atB at h; exact absurd h (by show ¬ (i + j < i); omega)
  | x :: l, i, j, h => by
    unfold atB at h
    split at h
    · exact absurd h (by show ¬ (i + j < i); omega)
    · rename_i hc
      have hb : Bef x.f0 x.f1 a b := by
        apply Classical.byContradiction
        intro g
        exact hc (cmp_neg.2 g)
      cases j with
      | zero => exact hb
      | succ j => exact atB_skip a b l (i + 1) j (by omega)
theorem atB_stop (a b : Int) : ∀ (l : List SB) (i : Nat), (atB a b l i).1 < i + l.length → ¬ Bef (l.getD ((atB a b l i).1 - i) z106).f0 (l.getD ((atB a b l i).1 - i) z106).f1 a b ∧ ((atB a b l i).2 = true ↔ key (l.getD ((atB a b l i).1 - i) z106) a b)
  | [], i, h => by unfold atB at h; exact absurd h (by simp)
  | x :: l, i, h => by
    have hr := atB_range a b l (i + 1)
    unfold atB at h ⊢
    split
    · rename_i hc
      rw [show (i, cmp x.f0 x.f1 a b == 0).1 - i = 0 by show i - i = 0; omega]
      refine ⟨cmp_neg.1 hc, ?_⟩
      show ((cmp x.f0 x.f1 a b == 0) = true ↔ key x a b)
      rw [beq_iff_eq, cmp_zero]
      rfl
    · rename_i hc
      rw [if_neg hc, List.length_cons] at h
      have g := atB_stop a b l (i + 1) (by omega)
      rw [show (atB a b l (i + 1)).1 - i = ((atB a b l (i + 1)).1 - (i + 1)) + 1 by omega]
      exact g
theorem atB_end (a b : Int) (l : List SB) (h : (atB a b l 0).1 = l.length) : (atB a b l 0).2 = false := by
  cases e : (atB a b l 0).2 with
  | false => rfl
  | true =>
    have := (atB_range a b l 0).2.2 e
    omega
def ins (a b n : Int) : List SB := if n = 0 then [] else [⟨a, b, n⟩]
def nxt (a b : Int) (l : List SB) : Nat := if (atB a b l 0).2 = true then (atB a b l 0).1 + 1 else (atB a b l 0).1
def putB (l : List SB) (a b n : Int) : List SB := l.take (atB a b l 0).1 ++ ins a b n ++ l.drop (nxt a b l)
theorem nxt_le (a b : Int) (l : List SB) : (atB a b l 0).1 ≤ nxt a b l ∧ nxt a b l ≤ l.length := by
  have := atB_range a b l 0
  unfold nxt
  split
  · rename_i h
    have := this.2.2 h
    omega
  · omega
theorem putB_len (l : List SB) (a b n : Int) : (putB l a b n).length ≤ l.length + 1 := by
  have := atB_range a b l 0
  have := nxt_le a b l
  unfold putB ins
  rw [List.length_append, List.length_append, List.length_take, List.length_drop]
  split <;> simp <;> omega
theorem clone_i (x : List SB) (hx : x.length ≤ 1048577) : impl_Bal_99.f x = some x := by
  unfold impl_Bal_99.f
  rw [Option.bind_some, List.length_nil, if_pos (by omega), List.nil_append]
theorem put_i (l : List SB) (a b n : Int) (hm : l.length ≤ 1048576) : Ev (fun k => impl_withBal.f k l a b n) (putB l a b n) := by
  unfold impl_withBal.f
  refine Ev.congr (fun k => by rw [clone_i l (by omega), Option.bind_some]) ?_
  refine Ev_bind (at_i l a b (by omega)) ?_
  have hr := atB_range a b l 0
  unfold putB nxt ins
  cases e : (atB a b l 0).2 with
  | true =>
    have hp := hr.2.2 e
    rw [if_pos (show true = true from rfl)]
    refine Ev_all_k fun k => ?_
    dsimp only
    rw [if_pos rfl, w_succ (n := l.length) (by omega) (by omega)]
    unfold impl_Bal_177.f
    rw [if_pos ⟨by omega, by omega, by omega, by omega⟩, Option.bind_some, Int.toNat_natCast, Int.toNat_natCast]
    by_cases h : n = 0
    · rw [if_pos h, if_pos h, List.append_nil]
    · rw [if_neg h, if_neg h]
      unfold impl_Bal_178.f
      have ll : (l.take (atB a b l 0).1 ++ l.drop ((atB a b l 0).1 + 1)).length = l.length - 1 := by simp; omega
      rw [if_pos ⟨by omega, by rw [ll]; omega, rfl, by rw [ll]; omega⟩, Option.bind_some, Int.toNat_natCast]
      have lt : (l.take (atB a b l 0).1).length = (atB a b l 0).1 := by rw [List.length_take]; omega
      rw [List.take_append_of_le_length (by omega), List.take_of_length_le (by omega), List.drop_append_of_le_length (by omega), List.drop_of_length_le (by omega), List.nil_append]
  | false =>
    rw [if_neg (show ¬ (false = true) by decide)]
    refine Ev_all_k fun k => ?_
    dsimp only
    rw [if_neg (show ¬ (false = true) by decide)]
    by_cases h : n = 0
    · rw [if_pos h, if_pos h, List.append_nil, List.take_append_drop]
    · rw [if_neg h, if_neg h]
      unfold impl_Bal_178.f
      rw [if_pos ⟨by omega, by omega, rfl, by omega⟩, Option.bind_some, Int.toNat_natCast]
theorem key_not {l : List SB} (h : SortB l) (a b : Int) (i : Nat) (hi : i < l.length) (hp : i ≠ (atB a b l 0).1) : ¬ key (l.getD i z106) a b := by
  intro g
  unfold key at g
  rcases Nat.lt_or_gt_of_ne hp with h1 | h1
  · have := atB_skip a b l 0 i (by omega)
    rw [g.1, g.2] at this
    unfold Bef at this
    omega
  · have h2 := (atB_stop a b l 0 (by omega)).1
    rw [Nat.sub_zero] at h2
    have h3 := B2.ahead (sortB_good h) (i - (atB a b l 0).1) _ i rfl h1 hi
    rw [g.1, g.2] at h3
    exact h2 h3
def Gs (l : List SB) (a b n : Int) (i : Nat) : List SB × Bool :=
  if i ≤ (atB a b l 0).1 then (l.take i, n == 0) else (l.take (atB a b l 0).1 ++ ins a b n ++ (l.drop (nxt a b l)).take (i - nxt a b l), true)
theorem put_s {l : List SB} (h : SortB l) (a b n : Int) (hm : l.length ≤ 1048576) : Ev (fun k => spec_l4Put.f k l a b n) (putB l a b n) := by
  unfold spec_l4Put.f
  have hr := atB_range a b l 0
  have hx := nxt_le a b l
  refine Ev_goes' (fun k (s : List SB × Bool) i => spec_l4Put.l0 k l a b s.1 s.2 i a b n) l.length (fun _ _ => putB l a b n) (fun i s => s = Gs l a b n i)
    (fun s hs => Ev_one fun k => ?_) (fun i s hi hs => .inr ⟨Gs l a b n (i + 1), rfl, rfl, fun r hr2 => ?_⟩) l.length 0 ([], n == 0) (by omega) (by omega) (by unfold Gs; rw [if_pos (Nat.zero_le _)]; rfl)
  · subst hs
    unfold Gs putB
    by_cases h1 : l.length ≤ (atB a b l 0).1
    · have e1 : (atB a b l 0).1 = l.length := by omega
      rw [if_pos h1]
      unfold nxt
      rw [atB_end a b l e1, if_neg (by decide), e1, List.take_length, List.drop_length, List.append_nil]
      dsimp only
      simp only [spec_l4Put.l0]
      rw [if_neg (by omega)]
      unfold ins
      by_cases hn : n = 0
      · rw [if_pos (by rw [hn]; rfl), if_pos hn, List.append_nil]
      · rw [if_neg (by rw [beq_iff_eq]; exact hn), if_neg hn, if_pos (by omega)]
    · rw [if_neg h1, List.take_of_length_le (l := l.drop (nxt a b l)) (by rw [List.length_drop]; exact Nat.le_refl _)]
      dsimp only
      simp only [spec_l4Put.l0]
      rw [if_neg (by omega), if_pos trivial]
  · subst hs
    have hk : ¬ i = (atB a b l 0).1 → ¬ ((l.getD i z106).f0 = a ∧ (l.getD i z106).f1 = b) := fun g => key_not h a b i hi g
    -- the round's second half where nothing is put
    have second : ∀ (out : List SB) (put : Bool) (r : List SB), out.length ≤ 1048577 → Ev (fun k => spec_l4Put.l0 k l a b (if (l.getD i z106).f0 = a ∧ (l.getD i z106).f1 = b then out else out ++ [l.getD i z106]) put ((i + 1 : Nat) : Int) a b n) r →
        Ev (fun k => spec_l4Put.j1 k l a b out put (i : Int) false a b n (l.getD i z106).f0 (l.getD i z106).f1 (l.getD i z106).f2) r := fun out put r ho hq => by
      refine Ev.step (fun k => ?_) hq
      show spec_l4Put.j1 (k + 1) l a b out put (i : Int) false a b n _ _ _ = _
      simp only [spec_l4Put.j1]
      rw [if_neg (by decide), w_succ hi (by omega)]
      by_cases g1 : (l.getD i z106).f0 = a
      · by_cases g2 : (l.getD i z106).f1 = b
        · rw [if_pos g1, if_pos g2, if_pos ⟨g1, g2⟩]
        · rw [if_pos g1, if_neg g2, if_pos (by omega), if_neg (fun g => g2 g.2)]
      · rw [if_neg g1, if_pos (by omega), if_neg (fun g => g1 g.1)]
    have first : ∀ (out : List SB) (r : List SB), Ev (fun k => spec_l4Put.j1 k l a b out true (i : Int) false a b n (l.getD i z106).f0 (l.getD i z106).f1 (l.getD i z106).f2) r → Ev (fun k => spec_l4Put.l0 k l a b out true (i : Int) a b n) r := fun out r hq => by
      refine Ev.step (fun k => ?_) hq
      show spec_l4Put.l0 (k + 1) l a b out true (i : Int) a b n = _
      simp only [spec_l4Put.l0, rdB]
      rw [if_pos (by omega), if_pos (by omega), if_pos trivial]
    have first2 : ∀ (out : List SB) (r : List SB), Ev (fun k => spec_l4Put.j1 k l a b out false (i : Int) (!decide (Bef (l.getD i z106).f0 (l.getD i z106).f1 a b)) a b n (l.getD i z106).f0 (l.getD i z106).f1 (l.getD i z106).f2) r → Ev (fun k => spec_l4Put.l0 k l a b out false (i : Int) a b n) r := fun out r hq => by
      refine Ev.step (fun k => ?_) hq
      show spec_l4Put.l0 (k + 1) l a b out false (i : Int) a b n = _
      simp only [spec_l4Put.l0, rdB]
      rw [if_pos (by omega), if_pos (by omega), if_neg (by decide), before_s, Option.bind_some]
    have lt : (l.take i).length ≤ 1048577 := by rw [List.length_take]; omega
    by_cases h1 : i < (atB a b l 0).1
    · have hb := atB_skip a b l 0 i (by omega)
      have hn := hk (by omega)
      unfold Gs at hr2 ⊢
      rw [if_pos (by omega)] at hr2
      rw [if_pos (by omega)]
      rw [take_getD z106 l i hi] at hr2
      have key2 := second (l.take i) (n == 0) r lt (by rw [if_neg hn]; exact hr2)
      dsimp only at hr2 ⊢
      cases e : (n == 0) with
      | true => rw [e] at key2; exact first _ r key2
      | false => rw [e] at key2; exact first2 _ r (by rw [decide_eq_true hb]; exact key2)
    · by_cases h2 : i = (atB a b l 0).1
      · have hs := atB_stop a b l 0 (by omega)
        rw [Nat.sub_zero, ← h2] at hs
        obtain ⟨hnb, hiff⟩ := hs
        unfold Gs at hr2 ⊢
        rw [if_neg (by omega)] at hr2
        rw [if_pos (by omega)]
        rw [← h2] at hr2
        have hrest : (if (l.getD i z106).f0 = a ∧ (l.getD i z106).f1 = b then l.take i ++ ins a b n else l.take i ++ ins a b n ++ [l.getD i z106]) = l.take i ++ ins a b n ++ (l.drop (nxt a b l)).take (i + 1 - nxt a b l) := by
          unfold nxt
          by_cases e : (atB a b l 0).2 = true
          · have hk1 : (l.getD i z106).f0 = a ∧ (l.getD i z106).f1 = b := hiff.1 e
            rw [if_pos hk1, if_pos e, ← h2, Nat.sub_self, List.take_zero, List.append_nil]
          · have hk1 : ¬ ((l.getD i z106).f0 = a ∧ (l.getD i z106).f1 = b) := fun g => e (hiff.2 g)
            rw [if_neg hk1, if_neg e, ← h2, show i + 1 - i = 0 + 1 by omega, drop_getD z106 l i hi, List.take_succ_cons, List.take_zero]
        rw [← hrest] at hr2
        dsimp only at hr2 ⊢
        by_cases hn : n = 0
        · subst hn
          have hi0 : ins a b 0 = [] := rfl
          rw [hi0, List.append_nil] at hr2
          exact first _ r (second (l.take i) true r lt hr2)
        · have e0 : (n == 0) = false := by rw [beq_eq_false_iff_ne]; exact hn
          rw [e0]
          refine first2 _ r ?_
          rw [decide_eq_false hnb]
          have hi0 : ins a b n = [⟨a, b, n⟩] := by unfold ins; rw [if_neg hn]
          rw [hi0] at hr2
          refine Ev.step (fun k => ?_) hr2
          show spec_l4Put.j1 (k + 1) l a b (l.take i) false (i : Int) true a b n _ _ _ = _
          simp only [spec_l4Put.j1]
          rw [if_pos trivial, if_pos (by omega), Option.bind_some, w_succ hi (by omega)]
          have ll : (l.take i ++ [(⟨a, b, n⟩ : SB)]).length < 5864062014805 := by rw [List.length_append, List.length_take]; simp; omega
          by_cases g1 : (l.getD i z106).f0 = a
          · by_cases g2 : (l.getD i z106).f1 = b
            · rw [if_pos g1, if_pos g2, if_pos ⟨g1, g2⟩]
            · rw [if_pos g1, if_neg g2, if_pos ll, if_neg (fun g => g2 g.2)]
          · rw [if_neg g1, if_pos ll, if_neg (fun g => g1 g.1)]
      · have hn := hk h2
        have hq : nxt a b l ≤ i := by unfold nxt; split <;> omega
        unfold Gs at hr2 ⊢
        rw [if_neg (by omega)] at hr2
        rw [if_neg (by omega)]
        have hg : (l.drop (nxt a b l)).take (i + 1 - nxt a b l) = (l.drop (nxt a b l)).take (i - nxt a b l) ++ [l.getD i z106] := by
          rw [show i + 1 - nxt a b l = (i - nxt a b l) + 1 by omega, take_getD z106 _ _ (by rw [List.length_drop]; omega), getD_drop, show nxt a b l + (i - nxt a b l) = i by omega]
        rw [hg, ← List.append_assoc] at hr2
        dsimp only at hr2 ⊢
        refine first _ r (second _ true r ?_ (by rw [if_neg hn]; exact hr2))
        rw [List.length_append, List.length_append, List.length_take, List.length_take, List.length_drop]
        unfold ins
        split <;> simp <;> omega
end Go.Proofs.YtmfgajbkcnlkcaaGreat.B3
namespace Go.Proofs.YtmfgajbkcnlkcaaGreat.B4
open Go Go.RowKit Go.Proofs.YtmfgajbkcnlkcaaGreat.P Go.Proofs.YtmfgajbkcnlkcaaGreatW.PrintWords Go.Proofs.YtmfgajbkcnlkcaaGreatW.PrintLast Go.Proofs.YtmfgajbkcnlkcaaGreat.EV Go.Proofs.YtmfgajbkcnlkcaaGreat.I1 Go.Proofs.YtmfgajbkcnlkcaaGreat.N1 Go.Proofs.YtmfgajbkcnlkcaaGreat.B1 Go.Proofs.YtmfgajbkcnlkcaaGreat.B2 Go.Proofs.YtmfgajbkcnlkcaaGreat.B3
theorem mem_take_getD {l : List SB} {p : Nat} {x : SB} (h : x ∈ l.take p) : ∃ j, j < p ∧ j < l.length ∧ l.getD j z106 = x := by
  obtain ⟨j, hj, rfl⟩ := List.getElem_of_mem h
  rw [List.length_take] at hj
  refine ⟨j, by omega, by omega, ?_⟩
  rw [getD_get _ l j (by omega), List.getElem_take]
theorem take_before {l : List SB} (a b : Int) {x : SB} (hx : x ∈ l.take (atB a b l 0).1) : Bef x.f0 x.f1 a b := by
  obtain ⟨j, hj, _, rfl⟩ := mem_take_getD hx
  exact atB_skip a b l 0 j (by omega)
theorem drop_after {l : List SB} (h : SortB l) (a b : Int) {x : SB} (hx : x ∈ l.drop (nxt a b l)) : Bef a b x.f0 x.f1 := by
  obtain ⟨j, hj, hjl, rfl⟩ := mem_drop hx
  have hr := atB_range a b l 0
  have hn := nxt_le a b l
  have hp : (atB a b l 0).1 < l.length := by omega
  obtain ⟨h1, h2⟩ := atB_stop a b l 0 (by omega)
  rw [Nat.sub_zero] at h1 h2
  unfold nxt at hj
  by_cases e : (atB a b l 0).2 = true
  · rw [if_pos e] at hj
    have hk := h2.1 e
    have h3 := B2.ahead (sortB_good h) (j - (atB a b l 0).1) _ j rfl (by omega) hjl
    rw [hk.1, hk.2] at h3
    exact h3
  · rw [if_neg e] at hj
    have hk : ¬ key (l.getD (atB a b l 0).1 z106) a b := fun g => e (h2.2 g)
    have h4 : Bef a b (l.getD (atB a b l 0).1 z106).f0 (l.getD (atB a b l 0).1 z106).f1 := by
      unfold Bef key at *
      omega
    rcases Nat.eq_or_lt_of_le hj with h5 | h5
    · rw [← h5]; exact h4
    · have h3 := B2.ahead (sortB_good h) (j - (atB a b l 0).1) _ j rfl h5 hjl
      unfold Bef at *
      omega
theorem bef_trans {a b c d e f : Int} (h : Bef a b c d) (k : Bef c d e f) : Bef a b e f := by
  unfold Bef at *
  omega
theorem putB_sort {l : List SB} (h : SortB l) {a b n : Int} (ha : No a) (hb : No b) (hn : Amt n) : SortB (putB l a b n) := by
  have hins : ∀ x ∈ ins a b n, x = ⟨a, b, n⟩ ∧ n ≠ 0 := by
    intro x hx
    unfold ins at hx
    split at hx
    · cases hx
    · rename_i h0
      exact ⟨by simpa using hx, h0⟩
  refine ⟨fun x hx => ?_, ?_⟩
  · unfold putB at hx
    rw [List.mem_append, List.mem_append] at hx
    rcases hx with (hx | hx) | hx
    · exact h.1 x (List.mem_of_mem_take hx)
    · obtain ⟨rfl, h0⟩ := hins x hx
      exact ⟨ha, hb, hn, h0⟩
    · exact h.1 x (List.mem_of_mem_drop hx)
  · unfold putB
    have p1 : (l.take (atB a b l 0).1).Pairwise Lt := h.2.sublist (List.take_sublist _ _)
    have p2 : (l.drop (nxt a b l)).Pairwise Lt := h.2.sublist (List.drop_sublist _ _)
    have p3 : (ins a b n).Pairwise Lt := by
      unfold ins
      split
      · exact List.Pairwise.nil
      · exact List.pairwise_singleton _ _
    rw [List.pairwise_append, List.pairwise_append]
    refine ⟨⟨p1, p3, fun x hx y hy => ?_⟩, p2, fun x hx y hy => ?_⟩
    · obtain ⟨rfl, _⟩ := hins y hy
      exact take_before a b hx
    · rcases List.mem_append.1 hx with hx | hx
      · exact bef_trans (take_before a b hx) (drop_after h a b hy)
      · obtain ⟨rfl, _⟩ := hins x hx
        exact drop_after h a b hy
theorem ofB_mem : ∀ {l : List SB}, l.Pairwise Lt → ∀ x ∈ l, ofB x.f0 x.f1 l = x.f2
  | [], _, x, hx => by cases hx
  | y :: l, h, x, hx => by
    rw [List.pairwise_cons] at h
    unfold ofB
    rcases List.mem_cons.1 hx with rfl | hx
    · rw [if_pos ⟨rfl, rfl⟩]
    · have := h.1 x hx
      rw [if_neg (by unfold Lt Bef at this; omega)]
      exact ofB_mem h.2 x hx
end Go.Proofs.YtmfgajbkcnlkcaaGreat.B4
namespace Go.Proofs.YtmfgajbkcnlkcaaGreat.G1
open Go Go.RowKit Go.Proofs.YtmfgajbkcnlkcaaGreat.P Go.Proofs.YtmfgajbkcnlkcaaGreatW.PrintWords Go.Proofs.YtmfgajbkcnlkcaaGreatW.PrintLast Go.Proofs.YtmfgajbkcnlkcaaGreat.EV Go.Proofs.YtmfgajbkcnlkcaaGreat.I1 Go.Proofs.YtmfgajbkcnlkcaaGreat.N1
abbrev SL := S93
theorem rdL (l : List SL) (i : Nat) : rd_T93 l (i : Int) = l.getD i z93 := by unfold rd_T93; rw [Int.toNat_natCast]
def GoodL (x : SL) : Prop := No x.f0 ∧ No x.f1 ∧ Amt x.f2
instance (x : SL) : Decidable (GoodL x) := by unfold GoodL; exact inferInstance
def RightL (l : List SL) : Prop := l.length ≤ 160 ∧ ∀ x ∈ l, GoodL x
noncomputable def rightL (l : List SL) : Bool := @decide (RightL l) (Classical.propDecidable _)
theorem rightL_iff (l : List SL) : rightL l = true ↔ RightL l := by unfold rightL; exact @decide_eq_true_iff _ (Classical.propDecidable _)
theorem rightL_no {l : List SL} (h : ¬ RightL l) : rightL l = false := by rw [Bool.eq_false_iff, Ne, rightL_iff]; exact h
theorem RightL.at {l : List SL} (h : RightL l) (i : Nat) (hi : i < l.length) : GoodL (l.getD i z93) := by
  have : l.getD i z93 = l[i] := by rw [List.getD_eq_getElem?_getD, List.getElem?_eq_getElem hi]; rfl
  rw [this]
  exact h.2 _ (List.getElem_mem hi)
theorem right_s (l : List SL) : Ev (fun k => spec_l4LegsRight.f k l) (rightL l) := by
  unfold spec_l4LegsRight.f
  by_cases hn : (l.length : Int) > 160
  · rw [rightL_no fun h => by have := h.1; omega]
    exact Ev_all_k fun k => by rw [if_pos hn]
  · obtain ⟨r, hr, hiff⟩ := Ev_asks (fun k i => spec_l4LegsRight.l0 k l i) l.length (fun j => GoodL (l.getD j z93)) true
      (Ev_one fun k => by simp only [spec_l4LegsRight.l0]; rw [if_neg (by omega)])
      (fun i hi => by
        have e : ∀ k, spec_l4LegsRight.l0 (k + 1) l (i : Int) = if No (l.getD i z93).f0 then (if No (l.getD i z93).f1 then (if Amt (l.getD i z93).f2 then spec_l4LegsRight.l0 k l ((i + 1 : Nat) : Int) else some false) else some false) else some false := by
          intro k
          simp only [spec_l4LegsRight.l0]
          rw [if_pos (by omega), if_pos (by omega), w_succ hi (by omega)]
          simp only [no_s, amt_s, Option.bind_some, decide_eq_true_iff, rdL]
        by_cases hg : GoodL (l.getD i z93)
        · refine .inl ⟨hg, fun k => ?_⟩
          show spec_l4LegsRight.l0 (k + 1) l (i : Int) = _
          rw [e k, if_pos hg.1, if_pos hg.2.1, if_pos hg.2.2]
        · refine .inr ⟨hg, fun k => ?_⟩
          show spec_l4LegsRight.l0 (k + 1) l (i : Int) = _
          rw [e k]
          unfold GoodL at hg
          split
          · rename_i h1
            split
            · rename_i h2
              split
              · rename_i h3
                exact absurd ⟨h1, h2, h3⟩ hg
              · rfl
            · rfl
          · rfl) l.length 0 (by omega) (by omega)
    have hq : r = rightL l := by
      rw [Bool.eq_iff_iff, hiff, rightL_iff]
      refine ⟨fun h => ⟨by omega, fun x hx => ?_⟩, fun h => ⟨fun j _ hj => h.at j hj, rfl⟩⟩
      obtain ⟨j, hj, rfl⟩ := List.getElem_of_mem hx
      have := h.1 j (Nat.zero_le _) hj
      rw [List.getD_eq_getElem?_getD, List.getElem?_eq_getElem hj] at this
      exact this
    subst hq
    exact Ev.congr (fun k => by rw [if_neg hn]; rfl) hr
theorem right_i (l : List SL) : impl_legsForm.f l = some (rightL l) := by
  unfold impl_legsForm.f
  congr 1
  rw [Bool.eq_iff_iff, rightL_iff, Bool.and_eq_true, decide_eq_true_iff, Bool.not_eq_true', List.any_eq_false]
  unfold RightL
  have e : ∀ x : SL, (¬ impl_legsForm.bad x = true) ↔ GoodL x := fun x => by
    unfold impl_legsForm.bad GoodL No Amt
    rw [Bool.not_eq_true', Bool.not_eq_false, decide_eq_true_iff]
  constructor
  · rintro ⟨h1, h2⟩
    exact ⟨by omega, fun x hx => (e x).1 (h2 x hx)⟩
  · rintro ⟨h1, h2⟩
    exact ⟨by omega, fun x hx => (e x).2 (h2 x hx)⟩
def sumL (a : Int) : List SL → Int
  | [] => 0
  | x :: l => (if x.f1 = a then x.f2 else 0) + sumL a l
theorem sumL_drop (a : Int) (l : List SL) (i : Nat) (hi : i < l.length) : sumL a (l.drop i) = (if (l.getD i z93).f1 = a then (l.getD i z93).f2 else 0) + sumL a (l.drop (i + 1)) := by
  rw [drop_getD z93 l i hi]; rfl
theorem sumL_bound {l : List SL} (h : RightL l) (a : Int) : ∀ (d i : Nat), l.length - i = d → i ≤ l.length → -(1000000000000000 * (l.length - i : Int)) ≤ sumL a (l.drop i) ∧ sumL a (l.drop i) ≤ 1000000000000000 * (l.length - i : Int) := by
  intro d
  induction d with
  | zero =>
    intro i hd hi
    obtain rfl : i = l.length := by omega
    rw [List.drop_length]
    unfold sumL
    omega
  | succ d ih =>
    intro i hd hi
    rw [sumL_drop a l i (by omega)]
    have := ih (i + 1) (by omega) (by omega)
    have g : Amt _ := (h.at i (by omega)).2.2
    unfold Amt at g
    split <;> omega
def EvenL (l : List SL) : Prop := ∀ j, j < l.length → sumL (l.getD j z93).f1 l = 0
def OkL (l : List SL) : Prop := RightL l ∧ EvenL l
noncomputable def okL (l : List SL) : Bool := @decide (OkL l) (Classical.propDecidable _)
theorem okL_iff (l : List SL) : okL l = true ↔ OkL l := by unfold okL; exact @decide_eq_true_iff _ (Classical.propDecidable _)
theorem okL_no {l : List SL} (h : ¬ OkL l) : okL l = false := by rw [Bool.eq_false_iff, Ne, okL_iff]; exact h
theorem legsOk_s (l : List SL) : Ev (fun k => spec_LegsOk.f k l) (okL l) := by
  unfold spec_LegsOk.f
  refine Ev_bind (right_s l) ?_
  by_cases h : RightL l
  · have h1 := h.1
    have hb := fun a i hi => sumL_bound h a (l.length - i) i rfl hi
    obtain ⟨r, hr, hiff⟩ := Ev_asks' (fun k i => spec_LegsOk.l0 k l i) l.length (fun j => sumL (l.getD j z93).f1 l = 0) true
      (Ev_one fun k => by simp only [spec_LegsOk.l0]; rw [if_neg (by omega)])
      (fun i hi => by
        have key : ∀ q, Ev (fun k => if sumL (l.getD i z93).f1 l = 0 then spec_LegsOk.l0 k l ((i + 1 : Nat) : Int) else some false) q → Ev (fun k => spec_LegsOk.l0 k l (i : Int)) q := fun q hq => by
          refine Ev.step (f := fun k => spec_LegsOk.l1 k l (i : Int) 0 0) (fun k => by simp only [spec_LegsOk.l0]; rw [if_pos (by omega)]) ?_
          refine (Ev_goes' (fun k s j => spec_LegsOk.l1 k l (i : Int) s j) l.length (fun _ _ => q) (fun j s => s + sumL (l.getD i z93).f1 (l.drop j) = sumL (l.getD i z93).f1 l)
            (fun s hs => by
              rw [List.drop_length] at hs
              have hs2 : s = sumL (l.getD i z93).f1 l := by rw [← hs]; show s = s + 0; omega
              refine Ev.step (fun k => ?_) hq
              show spec_LegsOk.l1 (k + 1) l (i : Int) s (l.length : Int) = _
              simp only [spec_LegsOk.l1]
              rw [if_neg (by omega), w_succ hi (by omega), hs2])
            (fun j s hj hs => by
              have e := sumL_drop (l.getD i z93).f1 l j hj
              have b0 := hb (l.getD i z93).f1 0 (by omega)
              have b1 := hb (l.getD i z93).f1 (j + 1) (by omega)
              rw [List.drop_zero] at b0
              refine .inr ⟨s + (if (l.getD j z93).f1 = (l.getD i z93).f1 then (l.getD j z93).f2 else 0), by omega, rfl, fun r hr => Ev.step (fun k => ?_) hr⟩
              show spec_LegsOk.l1 (k + 1) l (i : Int) s (j : Int) = _
              simp only [spec_LegsOk.l1, rdL]
              rw [if_pos (by omega), if_pos (by omega), if_pos (by omega), if_pos (by omega), w_succ hj (by omega)]
              by_cases h2 : (l.getD j z93).f1 = (l.getD i z93).f1
              · rw [if_pos h2] at e
                rw [if_pos h2, if_pos h2, w64_in _ (by omega) (by omega)]
              · rw [if_neg h2, if_neg h2, Int.add_zero]) l.length 0 0 (by omega) (by omega) (by rw [List.drop_zero]; omega) : Ev (fun k => spec_LegsOk.l1 k l (i : Int) 0 ((0 : Nat) : Int)) q)
        by_cases hg : sumL (l.getD i z93).f1 l = 0
        · exact .inl ⟨hg, fun r hr => key r (Ev.congr (fun k => by rw [if_pos hg]) hr)⟩
        · exact .inr ⟨hg, key false (Ev_all_k fun k => by rw [if_neg hg])⟩) l.length 0 (by omega) (by omega)
    have hq : r = okL l := by
      rw [Bool.eq_iff_iff, hiff, okL_iff]
      exact ⟨fun g => ⟨h, fun j hj => g.1 j (Nat.zero_le _) hj⟩, fun g => ⟨fun j _ hj => g.2 j hj, rfl⟩⟩
    subst hq
    exact Ev.congr (fun k => by rw [if_pos ((rightL_iff l).2 h)]; rfl) hr
  · rw [okL_no fun g => h g.1]
    exact Ev_all_k fun k => by rw [if_neg (by rw [rightL_no h]; decide)]
theorem legsOk_i (l : List SL) : Ev (fun k => impl_LegsOk.f k l) (okL l) := by
  unfold impl_LegsOk.f
  by_cases h : RightL l
  · have h1 := h.1
    have hb := fun a i hi => sumL_bound h a (l.length - i) i rfl hi
    obtain ⟨r, hr, hiff⟩ := Ev_asks' (fun k i => impl_LegsOk.l0 k l l (l.length : Int) i) l.length (fun j => sumL (l.getD j z93).f1 l = 0) true
      (Ev_one fun k => by simp only [impl_LegsOk.l0]; rw [if_neg (by omega)])
      (fun i hi => by
        have key : ∀ q, Ev (fun k => if sumL (l.getD i z93).f1 l = 0 then impl_LegsOk.l0 k l l (l.length : Int) ((i + 1 : Nat) : Int) else some false) q → Ev (fun k => impl_LegsOk.l0 k l l (l.length : Int) (i : Int)) q := fun q hq => by
          refine Ev.step (f := fun k => impl_LegsOk.l1 k l 0 l (l.length : Int) (i : Int) l (l.length : Int) 0 (l.getD i z93).f0 (l.getD i z93).f1 (l.getD i z93).f2) (fun k => by simp only [impl_LegsOk.l0, rdL]; rw [if_pos (by omega), if_pos (by omega), if_pos (by omega)]) ?_
          refine (Ev_goes' (fun k s j => impl_LegsOk.l1 k l s l (l.length : Int) (i : Int) l (l.length : Int) j (l.getD i z93).f0 (l.getD i z93).f1 (l.getD i z93).f2) l.length (fun _ _ => q) (fun j s => s + sumL (l.getD i z93).f1 (l.drop j) = sumL (l.getD i z93).f1 l)
            (fun s hs => by
              rw [List.drop_length] at hs
              have hs2 : s = sumL (l.getD i z93).f1 l := by rw [← hs]; show s = s + 0; omega
              refine Ev.step (fun k => ?_) hq
              show impl_LegsOk.l1 (k + 1) l s l (l.length : Int) (i : Int) l (l.length : Int) (l.length : Int) _ _ _ = _
              simp only [impl_LegsOk.l1]
              rw [if_neg (by omega), w_succ hi (by omega), hs2])
            (fun j s hj hs => by
              have e := sumL_drop (l.getD i z93).f1 l j hj
              have b0 := hb (l.getD i z93).f1 0 (by omega)
              have b1 := hb (l.getD i z93).f1 (j + 1) (by omega)
              rw [List.drop_zero] at b0
              refine .inr ⟨s + (if (l.getD j z93).f1 = (l.getD i z93).f1 then (l.getD j z93).f2 else 0), by omega, rfl, fun r hr => Ev.step (fun k => ?_) hr⟩
              show impl_LegsOk.l1 (k + 1) l s l (l.length : Int) (i : Int) l (l.length : Int) (j : Int) _ _ _ = _
              simp only [impl_LegsOk.l1, rdL]
              rw [if_pos (by omega), if_pos (by omega), if_pos (by omega), w_succ hj (by omega)]
              by_cases h2 : (l.getD j z93).f1 = (l.getD i z93).f1
              · rw [if_pos h2] at e
                rw [if_pos h2, if_pos h2, w64_in _ (by omega) (by omega)]
              · rw [if_neg h2, if_neg h2, Int.add_zero]) l.length 0 0 (by omega) (by omega) (by rw [List.drop_zero]; omega) : Ev (fun k => impl_LegsOk.l1 k l 0 l (l.length : Int) (i : Int) l (l.length : Int) ((0 : Nat) : Int) (l.getD i z93).f0 (l.getD i z93).f1 (l.getD i z93).f2) q)
        by_cases hg : sumL (l.getD i z93).f1 l = 0
        · exact .inl ⟨hg, fun r hr => key r (Ev.congr (fun k => by rw [if_pos hg]) hr)⟩
        · exact .inr ⟨hg, key false (Ev_all_k fun k => by rw [if_neg hg])⟩) l.length 0 (by omega) (by omega)
    have hq : r = okL l := by
      rw [Bool.eq_iff_iff, hiff, okL_iff]
      exact ⟨fun g => ⟨h, fun j hj => g.1 j (Nat.zero_le _) hj⟩, fun g => ⟨fun j _ hj => g.2 j hj, rfl⟩⟩
    subst hq
    exact Ev.congr (fun k => by rw [right_i, Option.bind_some, if_pos ((rightL_iff l).2 h)]; rfl) hr
  · rw [okL_no fun g => h g.1]
    exact Ev_all_k fun k => by rw [right_i, Option.bind_some, if_neg (by rw [rightL_no h]; decide)]
end Go.Proofs.YtmfgajbkcnlkcaaGreat.G1
namespace Go.Proofs.YtmfgajbkcnlkcaaGreat.B5
open Go Go.RowKit Go.Proofs.YtmfgajbkcnlkcaaGreat.P Go.Proofs.YtmfgajbkcnlkcaaGreatW.PrintWords Go.Proofs.YtmfgajbkcnlkcaaGreatW.PrintLast Go.Proofs.YtmfgajbkcnlkcaaGreat.EV Go.Proofs.YtmfgajbkcnlkcaaGreat.I1 Go.Proofs.YtmfgajbkcnlkcaaGreat.N1 Go.Proofs.YtmfgajbkcnlkcaaGreat.B1 Go.Proofs.YtmfgajbkcnlkcaaGreat.B2 Go.Proofs.YtmfgajbkcnlkcaaGreat.B3 Go.Proofs.YtmfgajbkcnlkcaaGreat.B4 Go.Proofs.YtmfgajbkcnlkcaaGreat.G1
theorem rdi (l : List Int) (i : Nat) : rd l (i : Int) = l.getD i 0 := by unfold rd; rw [Int.toNat_natCast]
def hasI (l : List Int) (x : Int) : Bool := l.any (fun y => y == x)
theorem hasI_drop (l : List Int) (x : Int) (i : Nat) (hi : i < l.length) : hasI (l.drop i) x = ((l.getD i 0 == x) || hasI (l.drop (i + 1)) x) := by
  rw [drop_getD 0 l i hi]; rfl
theorem has_s (l : List Int) (x : Int) (hm : l.length ≤ 9223372036854775807) : Ev (fun k => spec_l4Has.f k l x) (hasI l x) := by
  unfold spec_l4Has.f
  have h := Ev_goes (fun k (_ : Unit) i => spec_l4Has.l0 k l x i) l.length (fun i _ => hasI (l.drop i) x) (fun _ _ => True)
    (fun _ _ => Ev_one fun k => by
      simp only [spec_l4Has.l0]
      rw [if_neg (by omega), List.drop_length]
      rfl)
    (fun i _ hi _ => by
      by_cases h : l.getD i 0 = x
      · refine .inl (Ev_one fun k => ?_)
        simp only [spec_l4Has.l0, rdi]
        rw [if_pos (by omega), if_pos (by omega), if_pos h, hasI_drop l x i hi, beq_iff_eq.2 h]
        rfl
      · refine .inr ⟨(), trivial, by show hasI (l.drop (i + 1)) x = hasI (l.drop i) x; rw [hasI_drop l x i hi, beq_eq_false_iff_ne.2 h]; rfl, fun k => ?_⟩
        show spec_l4Has.l0 (k + 1) l x (i : Int) = _
        simp only [spec_l4Has.l0, rdi]
        rw [if_pos (by omega), if_pos (by omega), if_neg h, w_succ hi (by omega)]) l.length 0 () (by omega) (by omega) trivial
  rw [List.drop_zero] at h
  exact h
theorem has_i (l : List Int) (x : Int) (hm : l.length ≤ 9223372036854775807) : Ev (fun k => slices_Contains_int_int.f k l x) (hasI l x) := by
  unfold slices_Contains_int_int.f slices_Index_int_int.f
  have h : ∃ r : Int, Ev (fun k => slices_Index_int_int.l0 k l x (l.length : Int) 0) r ∧ decide (r ≥ 0) = hasI l x := by
    have key : ∀ (d i : Nat), l.length - i = d → i ≤ l.length → ∃ r : Int, Ev (fun k => slices_Index_int_int.l0 k l x (l.length : Int) (i : Int)) r ∧ decide (r ≥ 0) = hasI (l.drop i) x := by
      intro d
      induction d with
      | zero =>
        intro i hd hi
        obtain rfl : i = l.length := by omega
        refine ⟨-1, Ev_one fun k => ?_, by rw [List.drop_length]; rfl⟩
        simp only [slices_Index_int_int.l0]
        rw [if_neg (by omega)]
      | succ d ih =>
        intro i hd hi
        have hi2 : i < l.length := by omega
        by_cases h : l.getD i 0 = x
        · refine ⟨(i : Int), Ev_one fun k => ?_, ?_⟩
          · simp only [slices_Index_int_int.l0, rdi]
            rw [if_pos (by omega), if_pos (by omega), if_pos (by omega), if_pos h.symm]
          · rw [hasI_drop l x i hi2, beq_iff_eq.2 h, decide_eq_true (by omega)]
            rfl
        · obtain ⟨r, hr, e⟩ := ih (i + 1) (by omega) (by omega)
          refine ⟨r, Ev.step (fun k => ?_) hr, ?_⟩
          · simp only [slices_Index_int_int.l0, rdi]
            rw [if_pos (by omega), if_pos (by omega), if_pos (by omega), if_neg (fun g => h g.symm), w_succ hi2 (by omega)]
          · rw [e, hasI_drop l x i hi2, beq_eq_false_iff_ne.2 h]
            rfl
    have := key l.length 0 (by omega) (by omega)
    rw [List.drop_zero] at this
    exact this
  obtain ⟨r, hr, e⟩ := h
  refine Ev_bind hr ?_
  rw [e]
  exact Ev.now _
theorem of_i2 {l : List SB} (h : SortB l) (a b : Int) (hm : l.length ≤ 9223372036854775807) : Ev (fun k => impl_balOf.f k l a b) (ofB a b l) := by
  unfold impl_balOf.f
  refine Ev_bind (at_i l a b hm) ?_
  have g := at_of (sortB_good h) a b l.length 0 (by omega) (by omega)
  have r := atB_range a b l 0
  rw [List.drop_zero] at g
  rw [← g]
  by_cases h2 : (atB a b l 0).2 = true
  · refine Ev_all_k fun k => ?_
    have := r.2.2 h2
    rw [if_pos h2, if_pos h2, if_pos (by show (0 : Int) ≤ ((atB a b l 0).1 : Int); omega), if_pos (by show ((atB a b l 0).1 : Int) < _; omega), rdB]
  · refine Ev_all_k fun k => ?_
    rw [if_neg h2, if_neg h2]
theorem ofB_amt {l : List SB} (h : SortB l) (a b : Int) : Amt (ofB a b l) := by
  by_cases he : ∃ x ∈ l, x.f0 = a ∧ x.f1 = b
  · obtain ⟨x, hx, rfl, rfl⟩ := he
    rw [ofB_mem h.2 x hx]
    exact (h.1 x hx).2.2.1
  · rw [ofB_none a b l fun x hx g => he ⟨x, hx, g⟩]
    unfold Amt
    omega
def newB (l : List SB) (x : SL) : Int := ofB x.f0 x.f1 l + x.f2
def goP : List SB → List SL → Option (List SB)
  | l, [] => some l
  | l, x :: r => if Amt (newB l x) then goP (putB l x.f0 x.f1 (newB l x)) r else none
def shortB (o : List SB) (short : List Int) (x : SL) : Bool := !hasI short x.f0 && decide (ofB x.f0 x.f1 o < 0)
def endB (l o : List SB) (legs : List SL) (short : List Int) : List SB × Int := if legs.any (shortB o short) = true then (l, 3) else (if o.length ≤ 160 then (o, 0) else (l, 5))
def mainB (l : List SB) (legs : List SL) (short : List Int) : List SB × Int := match goP l legs with
  | none => (l, 4)
  | some o => endB l o legs short
noncomputable def postB (l : List SB) (legs : List SL) (short : List Int) : List SB × Int :=
  if okB l = true ∧ rightL legs = true ∧ short.length ≤ 20 then (if okL legs = true then mainB l legs short else (l, 2)) else ([], 1)
theorem leg_at {legs : List SL} (h : RightL legs) (i : Nat) (hi : i < legs.length) : GoodL (legs.getD i z93) := h.at i hi
theorem end_i {l o : List SB} {legs : List SL} {short : List Int} (ho : SortB o) (hol : o.length ≤ 1048576) (hl : legs.length ≤ 160) (hs : short.length ≤ 20) : Ev (fun k => impl_BalsPost.l1 k short l o legs (legs.length : Int) 0) (endB l o legs short) := by
  have h := Ev_goes' (fun k (_ : Unit) i => impl_BalsPost.l1 k short l o legs (legs.length : Int) i) legs.length (fun i _ => if (legs.drop i).any (shortB o short) = true then (l, 3) else (if o.length ≤ 160 then (o, 0) else (l, 5))) (fun _ _ => True)
    (fun _ _ => Ev_one fun k => by
      simp only [impl_BalsPost.l1]
      rw [if_neg (by omega), List.drop_length]
      show _ = some (if o.length ≤ 160 then (o, 0) else (l, 5))
      by_cases h : o.length ≤ 160
      · rw [if_neg (by omega), if_pos h]
      · rw [if_pos (by omega), if_neg h])
    (fun i _ hi _ => by
      have e : ∀ k, impl_BalsPost.l1 (k + 1) short l o legs (legs.length : Int) (i : Int) = (slices_Contains_int_int.f k short (legs.getD i z93).f0).bind fun t => if t = true then impl_BalsPost.l1 k short l o legs (legs.length : Int) ((i + 1 : Nat) : Int) else (impl_balOf.f k o (legs.getD i z93).f0 (legs.getD i z93).f1).bind fun t2 => if t2 < 0 then some (l, 3) else impl_BalsPost.l1 k short l o legs (legs.length : Int) ((i + 1 : Nat) : Int) := by
        intro k
        simp only [impl_BalsPost.l1, rdL]
        rw [if_pos (by omega), if_pos (by omega), if_pos (by omega), w_succ hi (by omega)]
      have hd : (legs.drop i).any (shortB o short) = (shortB o short (legs.getD i z93) || (legs.drop (i + 1)).any (shortB o short)) := by rw [drop_getD z93 legs i hi]; rfl
      cases hc : hasI short (legs.getD i z93).f0 with
      | true =>
        have hsb : shortB o short (legs.getD i z93) = false := by unfold shortB; rw [hc]; rfl
        refine .inr ⟨(), trivial, by rw [hd, hsb, Bool.false_or], fun r hr => ?_⟩
        refine Ev.step e (Ev_bind (has_i short _ (by omega)) ?_)
        rw [hc]
        exact Ev.congr (fun k => if_pos rfl) hr
      | false =>
        by_cases h0 : ofB (legs.getD i z93).f0 (legs.getD i z93).f1 o < 0
        · have hsb : shortB o short (legs.getD i z93) = true := by unfold shortB; rw [hc, decide_eq_true h0]; rfl
          refine .inl ?_
          rw [hd, hsb, Bool.true_or, if_pos rfl]
          refine Ev.step e (Ev_bind (has_i short _ (by omega)) ?_)
          rw [hc]
          refine Ev.congr (fun k => if_neg (by decide)) ?_
          exact Ev_bind (of_i2 ho _ _ (by omega)) (Ev_all_k fun k => if_pos h0)
        · have hsb : shortB o short (legs.getD i z93) = false := by unfold shortB; rw [hc, decide_eq_false h0]; rfl
          refine .inr ⟨(), trivial, by rw [hd, hsb, Bool.false_or], fun r hr => ?_⟩
          refine Ev.step e (Ev_bind (has_i short _ (by omega)) ?_)
          rw [hc]
          refine Ev.congr (fun k => if_neg (by decide)) ?_
          exact Ev_bind (of_i2 ho _ _ (by omega)) (Ev.congr (fun k => if_neg h0) hr)) legs.length 0 () (by omega) (by omega) trivial
  rw [List.drop_zero] at h
  exact h
theorem clone_s (x : List SB) (hx : x.length ≤ 1048577) : ([] : List SB).length + x.length < 5864062014805 := by simp; omega
theorem end_s {l o : List SB} {legs : List SL} {short : List Int} (hl1 : l.length ≤ 1048576) (hol : o.length ≤ 1048576) (hl : legs.length ≤ 160) (hs : short.length ≤ 20) : Ev (fun k => spec_BalsPost.l1 k l legs short o 0) (endB l o legs short) := by
  have h := Ev_goes' (fun k (_ : Unit) i => spec_BalsPost.l1 k l legs short o i) legs.length (fun i _ => if (legs.drop i).any (shortB o short) = true then (l, 3) else (if o.length ≤ 160 then (o, 0) else (l, 5))) (fun _ _ => True)
    (fun _ _ => Ev_one fun k => by
      simp only [spec_BalsPost.l1, Option.bind_some]
      rw [if_neg (by omega), List.drop_length]
      show _ = some (if o.length ≤ 160 then (o, 0) else (l, 5))
      by_cases h : o.length ≤ 160
      · rw [if_neg (by omega), if_pos h]
      · rw [if_pos (by omega), if_pos (clone_s l (by omega)), List.nil_append, if_neg h])
    (fun i _ hi _ => by
      have e : ∀ k, spec_BalsPost.l1 (k + 1) l legs short o (i : Int) = (spec_l4Of.f k o (legs.getD i z93).f0 (legs.getD i z93).f1).bind fun t2 => if t2 < 0 then (spec_l4Has.f k short (legs.getD i z93).f0).bind (fun t => if t = true then spec_BalsPost.l1 k l legs short o ((i + 1 : Nat) : Int) else some (l, 3)) else spec_BalsPost.l1 k l legs short o ((i + 1 : Nat) : Int) := by
        intro k
        simp only [spec_BalsPost.l1, rdL, Option.bind_some]
        rw [if_pos (by omega), if_pos (by omega), w_succ hi (by omega)]
        simp only [if_pos (clone_s l (by omega)), List.nil_append]
      have hd : (legs.drop i).any (shortB o short) = (shortB o short (legs.getD i z93) || (legs.drop (i + 1)).any (shortB o short)) := by rw [drop_getD z93 legs i hi]; rfl
      by_cases h0 : ofB (legs.getD i z93).f0 (legs.getD i z93).f1 o < 0
      · cases hc : hasI short (legs.getD i z93).f0 with
        | true =>
          have hsb : shortB o short (legs.getD i z93) = false := by unfold shortB; rw [hc]; rfl
          refine .inr ⟨(), trivial, by rw [hd, hsb, Bool.false_or], fun r hr => ?_⟩
          refine Ev.step e (Ev_bind (of_s o _ _ (by omega)) (Ev.congr (fun k => if_pos h0) (Ev_bind (has_s short _ (by omega)) ?_)))
          rw [hc]
          exact Ev.congr (fun k => if_pos rfl) hr
        | false =>
          have hsb : shortB o short (legs.getD i z93) = true := by unfold shortB; rw [hc, decide_eq_true h0]; rfl
          refine .inl ?_
          rw [hd, hsb, Bool.true_or, if_pos rfl]
          refine Ev.step e (Ev_bind (of_s o _ _ (by omega)) (Ev.congr (fun k => if_pos h0) (Ev_bind (has_s short _ (by omega)) ?_)))
          rw [hc]
          exact Ev_all_k fun k => rfl
      · have hsb : shortB o short (legs.getD i z93) = false := by unfold shortB; rw [decide_eq_false h0, Bool.and_false]
        refine .inr ⟨(), trivial, by rw [hd, hsb, Bool.false_or], fun r hr => ?_⟩
        exact Ev.step e (Ev_bind (of_s o _ _ (by omega)) (Ev.congr (fun k => if_neg h0) hr))) legs.length 0 () (by omega) (by omega) trivial
  rw [List.drop_zero] at h
  exact h
theorem addIn_s (a b : Int) (ha : Amt a) (hb : Amt b) : spec_AddIn.f a b = some (told (a + b) true) := by
  unfold spec_AddIn.f
  have e : wrap64 (a + b) = a + b := by unfold Amt at ha hb; exact w64_in _ (by omega) (by omega)
  rw [amt_s, Option.bind_some, if_pos (decide_eq_true ha), amt_s, Option.bind_some, decide_eq_true hb, e, told_s]
  rfl
theorem go_i {l : List SB} {legs : List SL} {short : List Int} (h : OkB l) (hr : RightL legs) (hs : short.length ≤ 20) : Ev (fun k => impl_BalsPost.l0 k legs short l l legs (legs.length : Int) 0) (mainB l legs short) := by
  have hl := hr.1
  have hl1 := h.1
  have hsl := ((okB_sort l).1 h).2
  refine Ev_goes' (fun k (s : List SB) i => impl_BalsPost.l0 k legs short l s legs (legs.length : Int) i) legs.length (fun _ _ => mainB l legs short) (fun i s => goP s (legs.drop i) = goP l legs ∧ SortB s ∧ s.length ≤ 160 + i)
    (fun s hi => ?_) (fun i s hi hv => ?_) legs.length 0 l (by omega) (by omega) ⟨by rw [List.drop_zero], hsl, by omega⟩
  · obtain ⟨h1, h2, h3⟩ := hi
    rw [List.drop_length] at h1
    have hm : mainB l legs short = endB l s legs short := by unfold mainB; rw [← h1]; rfl
    rw [hm]
    refine Ev.step (fun k => ?_) (end_i h2 (by omega) hl hs)
    simp only [impl_BalsPost.l0]
    rw [if_neg (by omega)]
  · obtain ⟨h1, h2, h3⟩ := hv
    have gx := leg_at hr i hi
    have ga := ofB_amt h2 (legs.getD i z93).f0 (legs.getD i z93).f1
    have gb := gx.2.2
    have hw : wrap64 (ofB (legs.getD i z93).f0 (legs.getD i z93).f1 s + (legs.getD i z93).f2) = newB s (legs.getD i z93) := by
      unfold newB
      unfold Amt at ga gb
      exact w64_in _ (by omega) (by omega)
    rw [drop_getD z93 legs i hi] at h1
    have e : ∀ k, impl_BalsPost.l0 (k + 1) legs short l s legs (legs.length : Int) (i : Int) = (impl_balOf.f k s (legs.getD i z93).f0 (legs.getD i z93).f1).bind fun t => (impl_AmountOk.f (wrap64 (t + (legs.getD i z93).f2))).bind fun t2 => if t2 = true then (impl_withBal.f k s (legs.getD i z93).f0 (legs.getD i z93).f1 (wrap64 (t + (legs.getD i z93).f2))).bind (fun t3 => impl_BalsPost.l0 k legs short l t3 legs (legs.length : Int) ((i + 1 : Nat) : Int)) else some (l, 4) := by
      intro k
      simp only [impl_BalsPost.l0, rdL]
      rw [if_pos (by omega), if_pos (by omega), if_pos (by omega), w_succ hi (by omega)]
    by_cases hA : Amt (newB s (legs.getD i z93))
    · refine .inr ⟨putB s (legs.getD i z93).f0 (legs.getD i z93).f1 (newB s (legs.getD i z93)), ⟨?_, putB_sort h2 gx.1 gx.2.1 hA, ?_⟩, rfl, fun r hq => ?_⟩
      · rw [← h1]
        conv => rhs; unfold goP
        rw [if_pos hA]
      · have := putB_len s (legs.getD i z93).f0 (legs.getD i z93).f1 (newB s (legs.getD i z93))
        omega
      · refine Ev.step e (Ev_bind (of_i2 h2 _ _ (by omega)) ?_)
        rw [hw]
        refine Ev.congr (fun k => by rw [amt_i, Option.bind_some, if_pos (decide_eq_true hA)]) ?_
        exact Ev_bind (put_i s _ _ _ (by omega)) hq
    · refine .inl ?_
      have hm : mainB l legs short = (l, 4) := by
        unfold mainB
        rw [← h1]
        unfold goP
        rw [if_neg hA]
      rw [hm]
      refine Ev.step e (Ev_bind (of_i2 h2 _ _ (by omega)) ?_)
      rw [hw]
      exact Ev_all_k fun k => by rw [amt_i, Option.bind_some, if_neg (by rw [decide_eq_false hA]; decide)]
theorem go_s {l : List SB} {legs : List SL} {short : List Int} (h : OkB l) (hr : RightL legs) (hs : short.length ≤ 20) : Ev (fun k => spec_BalsPost.l0 k l legs short l 0) (mainB l legs short) := by
  have hl := hr.1
  have hl1 := h.1
  have hsl := ((okB_sort l).1 h).2
  refine Ev_goes' (fun k (s : List SB) i => spec_BalsPost.l0 k l legs short s i) legs.length (fun _ _ => mainB l legs short) (fun i s => goP s (legs.drop i) = goP l legs ∧ SortB s ∧ s.length ≤ 160 + i)
    (fun s hi => ?_) (fun i s hi hv => ?_) legs.length 0 l (by omega) (by omega) ⟨by rw [List.drop_zero], hsl, by omega⟩
  · obtain ⟨h1, h2, h3⟩ := hi
    rw [List.drop_length] at h1
    have hm : mainB l legs short = endB l s legs short := by unfold mainB; rw [← h1]; rfl
    rw [hm]
    refine Ev.step (fun k => ?_) (end_s (by omega) (by omega) hl hs)
    simp only [spec_BalsPost.l0]
    rw [if_neg (by omega)]
  · obtain ⟨h1, h2, h3⟩ := hv
    have gx := leg_at hr i hi
    have ga := ofB_amt h2 (legs.getD i z93).f0 (legs.getD i z93).f1
    have gb := gx.2.2
    rw [drop_getD z93 legs i hi] at h1
    have e : ∀ k, spec_BalsPost.l0 (k + 1) l legs short s (i : Int) = (spec_l4Of.f k s (legs.getD i z93).f0 (legs.getD i z93).f1).bind fun t => (spec_AddIn.f t (legs.getD i z93).f2).bind fun t2 => if t2.2 = true then (spec_l4Put.f k s (legs.getD i z93).f0 (legs.getD i z93).f1 t2.1).bind (fun t3 => spec_BalsPost.l0 k l legs short t3 ((i + 1 : Nat) : Int)) else some (l, 4) := by
      intro k
      simp only [spec_BalsPost.l0, rdL, Option.bind_some]
      rw [if_pos (by omega), if_pos (by omega), w_succ hi (by omega)]
      simp only [if_pos (clone_s l (by omega)), List.nil_append]
    by_cases hA : Amt (newB s (legs.getD i z93))
    · refine .inr ⟨putB s (legs.getD i z93).f0 (legs.getD i z93).f1 (newB s (legs.getD i z93)), ⟨?_, putB_sort h2 gx.1 gx.2.1 hA, ?_⟩, rfl, fun r hq => ?_⟩
      · rw [← h1]
        conv => rhs; unfold goP
        rw [if_pos hA]
      · have := putB_len s (legs.getD i z93).f0 (legs.getD i z93).f1 (newB s (legs.getD i z93))
        omega
      · refine Ev.step e (Ev_bind (of_s s _ _ (by omega)) ?_)
        have ht : told (ofB (legs.getD i z93).f0 (legs.getD i z93).f1 s + (legs.getD i z93).f2) true = (newB s (legs.getD i z93), true) := if_pos ⟨rfl, hA⟩
        refine Ev.congr (fun k => by rw [addIn_s _ _ ga gb, Option.bind_some, ht, if_pos rfl]) ?_
        exact Ev_bind (put_s h2 _ _ _ (by omega)) hq
    · refine .inl ?_
      have hm : mainB l legs short = (l, 4) := by
        unfold mainB
        rw [← h1]
        unfold goP
        rw [if_neg hA]
      rw [hm]
      refine Ev.step e (Ev_bind (of_s s _ _ (by omega)) ?_)
      have ht : told (ofB (legs.getD i z93).f0 (legs.getD i z93).f1 s + (legs.getD i z93).f2) true = (0, false) := if_neg fun g => hA g.2
      exact Ev_all_k fun k => by rw [addIn_s _ _ ga gb, Option.bind_some, ht, if_neg (by decide)]
theorem post_i (l : List SB) (legs : List SL) (short : List Int) (hm : l.length ≤ 1048576) (hs : short.length ≤ 9223372036854775807) : Ev (fun k => impl_BalsPost.f k l legs short) (postB l legs short) := by
  unfold impl_BalsPost.f
  have no : ¬ (okB l = true ∧ rightL legs = true ∧ short.length ≤ 20) → Ev (fun k => impl_BalsPost.j0 k l legs short true) (postB l legs short) := fun h => by
    have hp : postB l legs short = ([], 1) := if_neg h
    rw [hp]
    exact Ev_one fun k => by simp only [impl_BalsPost.j0]; rw [if_pos trivial]
  refine Ev_bind (balsOk_i l (by omega)) ?_
  by_cases h1 : okB l = true
  · refine Ev.congr (fun k => by rw [if_pos h1, right_i, Option.bind_some]) ?_
    by_cases h2 : rightL legs = true
    · refine Ev.congr (fun k => by rw [if_pos h2]) ?_
      by_cases h3 : short.length ≤ 20
      · rw [decide_eq_false (show ¬ (short.length : Int) > 20 by omega)]
        have ho := (okB_iff l).1 h1
        have hr := (rightL_iff legs).1 h2
        have hl1 := ho.1
        have hp : postB l legs short = if okL legs = true then mainB l legs short else (l, 2) := if_pos ⟨h1, h2, h3⟩
        rw [hp]
        refine Ev.step (fun k => by simp only [impl_BalsPost.j0]; rw [if_neg (by decide), clone_i l (by omega), Option.bind_some]) ?_
        refine Ev_bind (legsOk_i legs) ?_
        by_cases h4 : okL legs = true
        · rw [if_pos h4]
          exact Ev.congr (fun k => by rw [if_pos h4, Option.bind_some]) (go_i ho hr h3)
        · rw [if_neg h4]
          exact Ev_all_k fun k => if_neg h4
      · rw [decide_eq_true (show (short.length : Int) > 20 by omega)]
        exact no fun g => h3 g.2.2
    · exact Ev.congr (fun k => if_neg h2) (no fun g => h2 g.2.1)
  · exact Ev.congr (fun k => if_neg h1) (no fun g => h1 g.1)
theorem post_s (l : List SB) (legs : List SL) (short : List Int) (hs : short.length ≤ 9223372036854775807) : Ev (fun k => spec_BalsPost.f k l legs short) (postB l legs short) := by
  unfold spec_BalsPost.f
  have no : ¬ (okB l = true ∧ rightL legs = true ∧ short.length ≤ 20) → Ev (fun k => spec_BalsPost.j0 k l legs short true) (postB l legs short) := fun h => by
    have hp : postB l legs short = ([], 1) := if_neg h
    rw [hp]
    exact Ev_one fun k => by simp only [spec_BalsPost.j0]; rw [if_pos trivial]
  refine Ev_bind (balsOk_s l) ?_
  by_cases h1 : okB l = true
  · refine Ev.congr (fun k => by rw [if_pos h1]) (Ev_bind (right_s legs) ?_)
    by_cases h2 : rightL legs = true
    · refine Ev.congr (fun k => by rw [if_pos h2]) ?_
      by_cases h3 : short.length ≤ 20
      · rw [decide_eq_false (show ¬ (short.length : Int) > 20 by omega)]
        have ho := (okB_iff l).1 h1
        have hr := (rightL_iff legs).1 h2
        have hl1 := ho.1
        have hp : postB l legs short = if okL legs = true then mainB l legs short else (l, 2) := if_pos ⟨h1, h2, h3⟩
        rw [hp]
        refine Ev.step (fun k => by simp only [spec_BalsPost.j0, Option.bind_some]; rw [if_neg (by decide), if_pos (clone_s l (by omega)), List.nil_append]) ?_
        refine Ev_bind (legsOk_s legs) ?_
        by_cases h4 : okL legs = true
        · rw [if_pos h4]
          exact Ev.congr (fun k => if_pos h4) (go_s ho hr h3)
        · rw [if_neg h4]
          exact Ev_all_k fun k => if_neg h4
      · rw [decide_eq_true (show (short.length : Int) > 20 by omega)]
        exact no fun g => h3 g.2.2
    · exact Ev.congr (fun k => if_neg h2) (no fun g => h2 g.2.1)
  · exact Ev.congr (fun k => if_neg h1) (no fun g => h1 g.1)
end Go.Proofs.YtmfgajbkcnlkcaaGreat.B5
namespace Go.Proofs.YtmfgajbkcnlkcaaGreat.B6
open Go Go.RowKit Go.Proofs.YtmfgajbkcnlkcaaGreat.P Go.Proofs.YtmfgajbkcnlkcaaGreatW.PrintWords Go.Proofs.YtmfgajbkcnlkcaaGreatW.PrintLast Go.Proofs.YtmfgajbkcnlkcaaGreat.EV Go.Proofs.YtmfgajbkcnlkcaaGreat.I1 Go.Proofs.YtmfgajbkcnlkcaaGreat.N1 Go.Proofs.YtmfgajbkcnlkcaaGreat.B1 Go.Proofs.YtmfgajbkcnlkcaaGreat.B2 Go.Proofs.YtmfgajbkcnlkcaaGreat.B3 Go.Proofs.YtmfgajbkcnlkcaaGreat.B4 Go.Proofs.YtmfgajbkcnlkcaaGreat.G1 Go.Proofs.YtmfgajbkcnlkcaaGreat.B5
theorem postB_cases (l : List SB) (legs : List SL) (short : List Int) :
    (postB l legs short = ([], 1)) ∨ (∃ c, postB l legs short = (l, c) ∧ (c = 2 ∧ okL legs = false ∨ (c = 3 ∨ c = 4 ∨ c = 5) ∧ okL legs = true)) ∨
    (∃ o, postB l legs short = (o, 0) ∧ okB l = true ∧ okL legs = true ∧ short.length ≤ 20 ∧ goP l legs = some o ∧ o.length ≤ 160 ∧ legs.any (shortB o short) = false) := by
  unfold postB
  by_cases h : okB l = true ∧ rightL legs = true ∧ short.length ≤ 20
  · rw [if_pos h]
    by_cases h2 : okL legs = true
    · rw [if_pos h2]
      unfold mainB
      cases hg : goP l legs with
      | none => exact .inr (.inl ⟨4, rfl, .inr ⟨by omega, h2⟩⟩)
      | some o =>
        show _ ∨ (∃ c, endB l o legs short = (l, c) ∧ _) ∨ (∃ o', endB l o legs short = (o', 0) ∧ _)
        unfold endB
        cases ha : legs.any (shortB o short) with
        | true =>
          rw [if_pos rfl]
          exact .inr (.inl ⟨3, rfl, .inr ⟨by omega, h2⟩⟩)
        | false =>
          rw [if_neg (by decide)]
          by_cases hl : o.length ≤ 160
          · rw [if_pos hl]
            exact .inr (.inr ⟨o, rfl, h.1, h2, h.2.2, rfl, hl, ha⟩)
          · rw [if_neg hl]
            exact .inr (.inl ⟨5, rfl, .inr ⟨by omega, h2⟩⟩)
    · rw [if_neg h2]
      exact .inr (.inl ⟨2, rfl, .inl ⟨rfl, by simpa using h2⟩⟩)
  · rw [if_neg h]
    exact .inl rfl
theorem postB_len (l : List SB) (legs : List SL) (short : List Int) : (postB l legs short).1.length ≤ l.length + 160 := by
  rcases postB_cases l legs short with h | ⟨c, h, _⟩ | ⟨o, h, _, _, _, _, h2, _⟩
  · rw [h]; exact Nat.zero_le _
  · rw [h]; exact Nat.le_add_right _ _
  · rw [h]; show o.length ≤ _; omega
end Go.Proofs.YtmfgajbkcnlkcaaGreat.B6
namespace Go.Proofs.YtmfgajbkcnlkcaaGreat.E3
open Go Go.RowKit Go.Proofs.YtmfgajbkcnlkcaaGreat.P Go.Proofs.YtmfgajbkcnlkcaaGreatW.PrintWords Go.Proofs.YtmfgajbkcnlkcaaGreatW.PrintLast Go.Proofs.YtmfgajbkcnlkcaaGreat.EV Go.Proofs.YtmfgajbkcnlkcaaGreat.I1 Go.Proofs.YtmfgajbkcnlkcaaGreat.N1 Go.Proofs.YtmfgajbkcnlkcaaGreat.E1
def mergeL : List SL → List SL → List SL
  | [], ys => ys
  | x :: xs, [] => x :: xs
  | x :: xs, y :: ys => if Lt x y then x :: mergeL xs (y :: ys) else y :: mergeL (x :: xs) ys
termination_by xs ys => xs.length + ys.length
theorem merge_nil (xs : List SL) : mergeL xs [] = xs := by cases xs <;> simp [mergeL]
theorem nil_merge (ys : List SL) : mergeL [] ys = ys := by simp [mergeL]
theorem merge_len : ∀ (xs ys : List SL), (mergeL xs ys).length = xs.length + ys.length
  | [], ys => by simp [mergeL]
  | x :: xs, [] => by simp [mergeL]
  | x :: xs, y :: ys => by
    rw [mergeL]
    split
    · rw [List.length_cons, merge_len xs (y :: ys)]
      simp only [List.length_cons]
      omega
    · rw [List.length_cons, merge_len (x :: xs) ys]
      simp only [List.length_cons]
      omega
termination_by xs ys => xs.length + ys.length
theorem merge_go (a b : List SL) (hm : a.length + b.length ≤ 3000000) : ∀ (n : Nat) (acc : List SL) (i j : Nat), (a.length - i) + (b.length - j) = n → i ≤ a.length → j ≤ b.length → acc.length ≤ i + j →
    Ev (fun k => spec_l5Merge.l0 k a b acc (i : Int) (j : Int)) (acc ++ mergeL (a.drop i) (b.drop j)) := by
  intro n
  induction n with
  | zero =>
    intro acc i j hn hi hj _
    have e1 : a.drop i = [] := List.drop_eq_nil_of_le (by omega)
    have e2 : b.drop j = [] := List.drop_eq_nil_of_le (by omega)
    rw [e1, e2, merge_nil, List.append_nil]
    refine Ev.step (f := fun k => spec_l5Merge.j1 k a b acc (i : Int) (j : Int) false) (fun k => ?_) (Ev_one fun k => ?_)
    · show spec_l5Merge.l0 (k + 1) a b acc (i : Int) (j : Int) = _
      simp only [spec_l5Merge.l0]
      rw [if_neg (by omega), decide_eq_false (by omega)]
    · show spec_l5Merge.j1 (k + 1) a b acc (i : Int) (j : Int) false = _
      simp only [spec_l5Merge.j1]
      rw [if_neg (by decide)]
  | succ n ih =>
    intro acc i j hn hi hj ha
    have e0 : ∀ k, spec_l5Merge.l0 (k + 1) a b acc (i : Int) (j : Int) = spec_l5Merge.j1 k a b acc (i : Int) (j : Int) true := fun k => by
      simp only [spec_l5Merge.l0]
      by_cases h1 : i < a.length
      · rw [if_pos (by omega)]
      · rw [if_neg (by omega), decide_eq_true (by omega)]
    refine Ev.step e0 ?_
    have takeA : i < a.length → mergeL (a.drop i) (b.drop j) = a.getD i z110 :: mergeL (a.drop (i + 1)) (b.drop j) → (∀ k, spec_l5Merge.j1 (k + 1) a b acc (i : Int) (j : Int) true = spec_l5Merge.l0 k a b (acc ++ [a.getD i z110]) ((i + 1 : Nat) : Int) (j : Int)) → Ev (fun k => spec_l5Merge.j1 k a b acc (i : Int) (j : Int) true) (acc ++ mergeL (a.drop i) (b.drop j)) := by
      intro h1 h2 h3
      have h4 := ih (acc ++ [a.getD i z110]) (i + 1) j (by omega) (by omega) hj (by rw [List.length_append, List.length_singleton]; omega)
      rw [h2, show acc ++ a.getD i z110 :: mergeL (a.drop (i + 1)) (b.drop j) = (acc ++ [a.getD i z110]) ++ mergeL (a.drop (i + 1)) (b.drop j) by rw [List.append_assoc]; rfl]
      exact Ev.step h3 h4
    have takeB : j < b.length → mergeL (a.drop i) (b.drop j) = b.getD j z110 :: mergeL (a.drop i) (b.drop (j + 1)) → (∀ k, spec_l5Merge.j1 (k + 1) a b acc (i : Int) (j : Int) true = spec_l5Merge.l0 k a b (acc ++ [b.getD j z110]) (i : Int) ((j + 1 : Nat) : Int)) → Ev (fun k => spec_l5Merge.j1 k a b acc (i : Int) (j : Int) true) (acc ++ mergeL (a.drop i) (b.drop j)) := by
      intro h1 h2 h3
      have h4 := ih (acc ++ [b.getD j z110]) i (j + 1) (by omega) hi (by omega) (by rw [List.length_append, List.length_singleton]; omega)
      rw [h2, show acc ++ b.getD j z110 :: mergeL (a.drop i) (b.drop (j + 1)) = (acc ++ [b.getD j z110]) ++ mergeL (a.drop i) (b.drop (j + 1)) by rw [List.append_assoc]; rfl]
      exact Ev.step h3 h4
    by_cases hb : j = b.length
    · have h1 : i < a.length := by omega
      refine takeA h1 (by rw [show b.drop j = [] from List.drop_eq_nil_of_le (by omega), merge_nil, merge_nil, drop_getD z110 a i h1]) fun k => ?_
      simp only [spec_l5Merge.j1]
      rw [if_pos trivial, if_pos (by omega), if_pos (by omega), if_pos (by omega), if_pos (by omega), w_succ h1 (by omega)]
      simp only [rdL]
    · have h2 : j < b.length := by omega
      by_cases h1 : i < a.length
      · by_cases hl : Lt (a.getD i z110) (b.getD j z110)
        · refine takeA h1 (by rw [drop_getD z110 a i h1, drop_getD z110 b j h2, mergeL, if_pos hl]) fun k => ?_
          simp only [spec_l5Merge.j1]
          rw [if_pos trivial, if_neg (by omega), if_pos (by omega), if_pos (by omega), if_pos (by omega), if_pos (by omega), w_succ h1 (by omega)]
          simp only [rdL, before_s, Option.bind_some, decide_eq_true_iff]
          rw [if_pos hl, if_pos (by omega)]
        · refine takeB h2 (by rw [drop_getD z110 a i h1, drop_getD z110 b j h2, mergeL, if_neg hl]) fun k => ?_
          simp only [spec_l5Merge.j1]
          rw [if_pos trivial, if_neg (by omega), if_pos (by omega), if_pos (by omega), if_pos (by omega), if_pos (by omega), w_succ h2 (by omega)]
          simp only [rdL, before_s, Option.bind_some, decide_eq_true_iff]
          rw [if_neg hl, if_pos (by omega)]
      · refine takeB h2 (by rw [show a.drop i = [] from List.drop_eq_nil_of_le (by omega), nil_merge, nil_merge, drop_getD z110 b j h2]) fun k => ?_
        simp only [spec_l5Merge.j1]
        rw [if_pos trivial, if_neg (by omega), if_neg (by omega), if_pos (by omega), if_pos (by omega), if_pos (by omega), w_succ h2 (by omega)]
        simp only [rdL]
theorem merge_s (a b : List SL) (hm : a.length + b.length ≤ 3000000) : Ev (fun k => spec_l5Merge.f k a b) (mergeL a b) := by
  unfold spec_l5Merge.f
  have h := merge_go a b hm _ [] 0 0 rfl (Nat.zero_le _) (Nat.zero_le _) (Nat.le_refl _)
  rw [List.drop_zero, List.drop_zero, List.nil_append] at h
  exact h
end Go.Proofs.YtmfgajbkcnlkcaaGreat.E3
namespace Go.Proofs.YtmfgajbkcnlkcaaGreat.E4
open Go Go.RowKit Go.Proofs.YtmfgajbkcnlkcaaGreat.P Go.Proofs.YtmfgajbkcnlkcaaGreatW.PrintWords Go.Proofs.YtmfgajbkcnlkcaaGreatW.PrintLast Go.Proofs.YtmfgajbkcnlkcaaGreat.EV Go.Proofs.YtmfgajbkcnlkcaaGreat.I1 Go.Proofs.YtmfgajbkcnlkcaaGreat.N1 Go.Proofs.YtmfgajbkcnlkcaaGreat.E1 Go.Proofs.YtmfgajbkcnlkcaaGreat.E2 Go.Proofs.YtmfgajbkcnlkcaaGreat.E3
theorem ok_one (x : SL) : impl_LotsOk.ok [x] = decide (E1.Form x) := by
  rw [Bool.eq_iff_iff, ok_iff, decide_eq_true_iff]
  constructor
  · intro h
    exact h.2.1 x (List.mem_cons_self ..)
  · intro h
    refine ⟨by simp, fun y hy => ?_, trivial, fun a b => ?_⟩
    · rw [List.mem_singleton.1 hy]
      exact h
    · unfold E1.Form at h
      simp only [qty, cst]
      unfold Amt
      split <;> omega
def at_ (x : SL) : List SL → Nat
  | [] => 0
  | y :: ys => if Lt y x then at_ x ys + 1 else 0
theorem at_le (x : SL) : ∀ l : List SL, at_ x l ≤ l.length
  | [] => Nat.le_refl _
  | y :: ys => by
    simp only [at_, List.length_cons]
    split
    · have := at_le x ys
      omega
    · omega
theorem merge_one (x : SL) : ∀ l : List SL, mergeL l [x] = l.take (at_ x l) ++ [x] ++ l.drop (at_ x l)
  | [] => by simp [mergeL, at_]
  | y :: ys => by
    rw [mergeL]
    simp only [at_]
    split
    · rw [merge_one x ys]
      simp
    · rw [merge_nil]
      simp
def openL (l : List SL) (x : SL) : List SL × Int := if impl_LotsOk.ok l = true ∧ E1.Form x then (if impl_LotsOk.ok (mergeL l [x]) = true then (mergeL l [x], 0) else (l, 3)) else ([], 1)
theorem open_len (l : List SL) (x : SL) : (openL l x).1.length ≤ l.length + 1 := by
  unfold openL
  split
  · split
    · show (mergeL l [x]).length ≤ _
      rw [merge_len]
      simp
    · exact Nat.le_succ _
  · exact Nat.zero_le _
theorem open_s (l : List SL) (x : SL) (hl : l.length ≤ 1048576) : Ev (fun k => spec_LotOpen.f k l x.f0 x.f1 x.f2 x.f3 x.f4) (openL l x) := by
  unfold spec_LotOpen.f openL
  have bad : Ev (fun k => spec_LotOpen.j0 k l true x.f0 x.f1 x.f2 x.f3 x.f4) (([] : List SL), (1 : Int)) := Ev_one fun k => by
    simp only [spec_LotOpen.j0]
    rw [if_pos trivial]
  refine Ev_bind (lotsOk_s l) ?_
  by_cases h : impl_LotsOk.ok l = true
  · refine Ev.congr (fun k => by rw [if_pos h, right_s, Option.bind_some]) ?_
    by_cases hf : E1.Form x
    · rw [if_pos ⟨h, hf⟩]
      refine Ev.step (f := fun k => (spec_l5Merge.f k l [x]).bind fun t => (spec_LotsOk.f k t).bind fun t2 => if t2 = true then some (t, 0) else (some (([] : List SL) : List SL)).bind fun y => if y.length + l.length < 3518437208883 then some (y ++ l, 3) else none) (fun k => ?_) ?_
      · rw [decide_eq_true hf]
        simp only [spec_LotOpen.j0]
        rw [if_neg (by decide)]
      · refine Ev_bind (merge_s l [x] (by simp; omega)) (Ev_bind (lotsOk_s _) ?_)
        by_cases ho : impl_LotsOk.ok (mergeL l [x]) = true
        · exact Ev_all_k fun k => by
            rw [if_pos ho, if_pos ho]
        · exact Ev_all_k fun k => by
            rw [if_neg ho, if_neg ho, Option.bind_some, if_pos (by simp; omega), List.nil_append]
    · rw [if_neg fun g => hf g.2]
      exact Ev.congr (fun k => by rw [decide_eq_false hf]; rfl) bad
  · rw [if_neg fun g => h g.1]
    exact Ev.congr (fun k => if_neg h) bad
theorem cmp_x (a b : SL) : impl_lotBefore.f 1 a.f0 a.f1 a.f2 a.f3 a.f4 b.f0 b.f1 b.f2 b.f3 b.f4 = some (impl_LotsOk.cmp a b) := by
  unfold impl_lotBefore.f impl_byBoth.f impl_LotsOk.cmp
  simp only [impl_byBoth.j0]
  by_cases h0 : a.f0 < b.f0
  · simp [h0]
  · by_cases h1 : a.f0 = b.f0
    · have n1 : ¬b.f0 < a.f0 := by omega
      by_cases h2 : a.f1 < b.f1
      · simp [h1, h2]
      · by_cases h3 : a.f1 = b.f1
        · by_cases h4 : a.f2 < b.f2
          · simp [h1, h3, h4]
          · by_cases h5 : b.f2 < a.f2 <;> simp [h1, h3, h4, h5]
        · have n3 : b.f1 < a.f1 := by omega
          simp [h1, h2, h3, n3]
    · have n1 : b.f0 < a.f0 := by omega
      simp [h0, h1, n1]
theorem before_i (x y : SL) : Ev (fun k => impl_lotBefore.f k x.f0 x.f1 x.f2 x.f3 x.f4 y.f0 y.f1 y.f2 y.f3 y.f4) (impl_LotsOk.cmp x y) := by
  have h := cmp_x x y
  refine ⟨1, fun k hk => ?_⟩
  obtain ⟨m, rfl⟩ : ∃ m, k = m + 1 := ⟨k - 1, by omega⟩
  rw [← h]
  unfold impl_lotBefore.f impl_byBoth.f
  simp only [impl_byBoth.j0]
theorem walk_i (l : List SL) (x : SL) (hl : l.length ≤ 1048576) (R : List SL × Int) (hj : Ev (fun k => impl_LotOpen.j2 k l ((at_ x l : Nat) : Int) x.f0 x.f1 x.f2 x.f3 x.f4) R) : Ev (fun k => impl_LotOpen.l0 k l 0 x.f0 x.f1 x.f2 x.f3 x.f4) R := by
  have h : ∀ (n i : Nat), l.length - i = n → i ≤ l.length → at_ x l = i + at_ x (l.drop i) → Ev (fun k => impl_LotOpen.l0 k l (i : Int) x.f0 x.f1 x.f2 x.f3 x.f4) R := by
    intro n
    induction n with
    | zero =>
      intro i hn hi he
      have e : l.drop i = [] := List.drop_eq_nil_of_le (by omega)
      rw [e] at he
      have e2 : at_ x l = i := he
      rw [e2] at hj
      refine Ev.step (fun k => ?_) hj
      show impl_LotOpen.l0 (k + 1) l (i : Int) x.f0 x.f1 x.f2 x.f3 x.f4 = _
      simp only [impl_LotOpen.l0]
      rw [if_neg (by omega)]
    | succ n ih =>
      intro i hn hi he
      have h1 : i < l.length := by omega
      rw [drop_getD z110 l i h1] at he
      simp only [at_] at he
      refine Ev.step (f := fun k => (impl_lotBefore.f k (l.getD i z110).f0 (l.getD i z110).f1 (l.getD i z110).f2 (l.getD i z110).f3 (l.getD i z110).f4 x.f0 x.f1 x.f2 x.f3 x.f4).bind fun t => if t < 0 then impl_LotOpen.l0 k l ((i + 1 : Nat) : Int) x.f0 x.f1 x.f2 x.f3 x.f4 else impl_LotOpen.j2 k l (i : Int) x.f0 x.f1 x.f2 x.f3 x.f4) (fun k => ?_) (Ev_bind (before_i _ x) ?_)
      · show impl_LotOpen.l0 (k + 1) l (i : Int) x.f0 x.f1 x.f2 x.f3 x.f4 = _
        simp only [impl_LotOpen.l0]
        rw [if_pos (by omega), if_pos (by omega), w_succ h1 (by omega)]
        simp only [rdL]
      · have hc := cmp_neg (l.getD i z110) x
        by_cases hlt : Lt (l.getD i z110) x
        · rw [if_pos hlt] at he
          refine Ev.congr (fun k => if_pos (by have h2 : ¬(0 ≤ impl_LotsOk.cmp (l.getD i z110) x) := fun h2 => hc.1 h2 hlt; omega)) (ih (i + 1) (by omega) (by omega) (by omega))
        · rw [if_neg hlt] at he
          have e2 : at_ x l = i := by omega
          rw [e2] at hj
          exact Ev.congr (fun k => if_neg (by have h2 := hc.2 hlt; omega)) hj
  exact h l.length 0 (by omega) (Nat.zero_le _) (by rw [List.drop_zero]; omega)
theorem open_i (l : List SL) (x : SL) (hl : l.length ≤ 1048576) : Ev (fun k => impl_LotOpen.f k l x.f0 x.f1 x.f2 x.f3 x.f4) (openL l x) := by
  unfold impl_LotOpen.f openL
  have bad : Ev (fun k => impl_LotOpen.j0 k l true x.f0 x.f1 x.f2 x.f3 x.f4) (([] : List SL), (1 : Int)) := Ev_one fun k => by
    simp only [impl_LotOpen.j0]
    rw [if_pos trivial]
  have okf : ∀ m : List SL, m.length < 1048577 → impl_LotsOk.f m = some (impl_LotsOk.ok m) := fun m h => by
    unfold impl_LotsOk.f
    rw [if_pos h]
  by_cases h : impl_LotsOk.ok l = true
  · have h120 : l.length ≤ 120 := ((ok_iff l).1 h).1
    refine Ev.congr (fun k => by rw [okf l (by omega), Option.bind_some, if_pos h, okf [x] (by simp), Option.bind_some, ok_one]) ?_
    by_cases hf : E1.Form x
    · rw [if_pos ⟨h, hf⟩]
      refine Ev.step (f := fun k => impl_LotOpen.l0 k l 0 x.f0 x.f1 x.f2 x.f3 x.f4) (fun k => ?_) (walk_i l x hl _ (Ev_one fun k => ?_))
      · rw [decide_eq_true hf]
        simp only [impl_LotOpen.j0]
        rw [if_neg (by decide)]
      · have ha := at_le x l
        have c1 : impl_Lot_100.f l = some l := by
          unfold impl_Lot_100.f
          rw [Option.bind_some, if_pos (by simp; omega), List.nil_append]
        have c2 : impl_Lot_159.f l ((at_ x l : Nat) : Int) [x] = some (mergeL l [x]) := by
          unfold impl_Lot_159.f
          rw [if_pos ⟨by omega, by omega, rfl, by omega⟩, merge_one, Int.toNat_natCast]
        show impl_LotOpen.j2 (k + 1) l ((at_ x l : Nat) : Int) x.f0 x.f1 x.f2 x.f3 x.f4 = _
        simp only [impl_LotOpen.j2]
        rw [c1, Option.bind_some]
        show ((impl_Lot_159.f l ((at_ x l : Nat) : Int) [x]).bind _) = _
        rw [c2, Option.bind_some, okf _ (by rw [merge_len]; simp; omega), Option.bind_some]
        by_cases ho : impl_LotsOk.ok (mergeL l [x]) = true
        · rw [if_pos ho, if_pos ho]
        · rw [if_neg ho, if_neg ho]
          rfl
    · rw [if_neg fun g => hf g.2]
      exact Ev.congr (fun k => by rw [decide_eq_false hf]; rfl) bad
  · rw [if_neg fun g => h g.1]
    exact Ev.congr (fun k => by rw [okf l (by omega), Option.bind_some, if_neg h]) bad
end Go.Proofs.YtmfgajbkcnlkcaaGreat.E4
namespace Go.Proofs.YtmfgajbkcnlkcaaGreat.BI
open Go Go.RowKit Go.Proofs.YtmfgajbkcnlkcaaGreat.P Go.Proofs.YtmfgajbkcnlkcaaGreatW.PrintWords Go.Proofs.YtmfgajbkcnlkcaaGreatW.PrintLast Go.Proofs.YtmfgajbkcnlkcaaGreat.EV Go.Proofs.YtmfgajbkcnlkcaaGreat.BC Go.Proofs.YtmfgajbkcnlkcaaGreat.C1 Go.Proofs.YtmfgajbkcnlkcaaGreat.C2
def shortL : LA → List Int
  | [] => []
  | x :: l => if x.f1 = 1 then shortL l else x.f0 :: shortL l
theorem shortL_drop (A : LA) (i : Nat) (hi : i < A.length) : shortL (A.drop i) = if (A.getD i z80).f1 = 1 then shortL (A.drop (i + 1)) else (A.getD i z80).f0 :: shortL (A.drop (i + 1)) := by
  rw [drop_getD z80 A i hi]; rfl
theorem shortL_len : ∀ A : LA, (shortL A).length ≤ A.length
  | [] => Nat.le_refl 0
  | x :: l => by
    have := shortL_len l
    unfold shortL
    split <;> simp only [List.length_cons] <;> omega
theorem shortL_step (A : LA) (i : Nat) (hi : i < A.length) (s : List Int) : (if (A.getD i z80).f1 = 1 then s else s ++ [(A.getD i z80).f0]) ++ shortL (A.drop (i + 1)) = s ++ shortL (A.drop i) := by
  rw [shortL_drop A i hi]
  split <;> simp
theorem short_s (A : LA) (I : LI) (B : LB) (L : LL) (T : LT) (d : Int) (mA : A.length ≤ 1048576) : Ev (fun k => spec_l6Short.f k A I B L T d) (shortL A) := by
  unfold spec_l6Short.f
  have h := Ev_goes (fun k (s : List Int) i => spec_l6Short.l0 k s i A I B L T d) A.length (fun i s => s ++ shortL (A.drop i)) (fun i s => s.length ≤ i)
    (fun s hs => Ev_one fun k => by
      simp only [spec_l6Short.l0]
      rw [if_neg (by omega)]
      simp [shortL])
    (fun i s hi hs => by
      refine .inr ⟨if (A.getD i z80).f1 = 1 then s else s ++ [(A.getD i z80).f0], ?_, shortL_step A i hi s, fun k => ?_⟩
      · split
        · omega
        · simp; omega
      · simp only [spec_l6Short.l0]
        rw [if_pos (by omega), if_pos (by omega), w_succ hi (by omega)]
        simp only [rdA]
        by_cases h7 : (A.getD i z80).f1 = 1
        · rw [if_pos h7, if_pos h7]
        · rw [if_neg h7, if_neg h7, if_pos (by omega)]) A.length 0 [] (by omega) (by omega) (by simp)
  simpa using h
def pcode (c : Int) : Int := if c = 0 then 0 else if c = 3 then 5 else if c = 4 then 8 else if c = 5 then 7 else 1
theorem pcode_i (c : Int) : impl_postCode.f c = some (pcode c) := by
  unfold impl_postCode.f pcode
  split
  · rfl
  · split
    · rfl
    · split
      · rfl
      · split <;> rfl
def postR (p : LB × Int) : Bool × LB × Int := if p.2 = 0 then (true, p.1, pcode p.2) else (false, [], pcode p.2)
theorem post_m (A : LA) (I : LI) (B : LB) (L : LL) (T : LT) (legs : List S93) (d : Int) (mA : A.length ≤ 1048576) (mB : B.length ≤ 1048576) : Ev (fun k => impl_post.l0 k d A I B L T legs (A.length : Int) 0 []) (postR (B5.postB B legs (shortL A))) := by
  have h := Ev_goes (fun k (s : List Int) i => impl_post.l0 k d A I B L T legs (A.length : Int) i s) A.length (fun i s => postR (B5.postB B legs (s ++ shortL (A.drop i)))) (fun i s => s.length ≤ i)
    (fun s hs => by
      have e : s ++ shortL (A.drop A.length) = s := by simp [shortL]
      rw [e]
      refine Ev.step (f := fun k => (impl_BalsPost.f k B legs s).bind fun r => if r.2 = 0 then (impl_postCode.f r.2).bind fun c => some (true, r.1, c) else (impl_postCode.f r.2).bind fun c => some (false, [], c)) (fun k => ?_) (Ev_bind (B5.post_i B legs s mB (by omega)) (Ev_all_k fun k => ?_))
      · simp only [impl_post.l0]
        rw [if_neg (by omega)]
      · unfold postR
        split
        · rw [pcode_i]; rfl
        · rw [pcode_i]; rfl)
    (fun i s hi hs => by
      refine .inr ⟨if (A.getD i z80).f1 = 1 then s else s ++ [(A.getD i z80).f0], ?_, by rw [shortL_step A i hi s], fun k => ?_⟩
      · split
        · omega
        · simp; omega
      · show impl_post.l0 (k + 1) d A I B L T legs (A.length : Int) (i : Int) s = _
        simp only [impl_post.l0]
        rw [if_pos (by omega), if_pos (by omega), if_pos (by omega), w_succ hi (by omega)]
        simp only [rdA]
        by_cases h7 : (A.getD i z80).f1 = 1
        · rw [if_pos h7, if_pos h7]
        · rw [if_neg h7, if_neg h7, if_pos (by omega)]) A.length 0 [] (by omega) (by omega) (by simp)
  simpa using h
def pair (a b c q : Int) : List S93 := [⟨a, c, -q⟩, ⟨b, c, q⟩]
theorem pair_ok {a b c q : Int} (ha : N1.No a) (hb : N1.No b) (hc : N1.No c) (h0 : 1 ≤ q) (h1 : q ≤ 1000000000000000) : G1.okL (pair a b c q) = true := by
  refine (G1.okL_iff _).2 ⟨⟨by simp [pair], fun x hx => ?_⟩, fun j hj => ?_⟩
  · rcases List.mem_cons.1 hx with rfl | hx
    · exact ⟨ha, hc, by unfold N1.Amt; dsimp only; omega⟩
    · rcases List.mem_cons.1 hx with rfl | hx
      · exact ⟨hb, hc, by unfold N1.Amt; dsimp only; omega⟩
      · cases hx
  · have : j = 0 ∨ j = 1 := by simp [pair] at hj; omega
    rcases this with rfl | rfl <;> simp [pair, G1.sumL] <;> omega
theorem pair_post {a b c q : Int} (ha : N1.No a) (hb : N1.No b) (hc : N1.No c) (h0 : 1 ≤ q) (h1 : q ≤ 1000000000000000) {B : LB} (hB : B1.okB B = true) {s : List Int} (hs : s.length ≤ 20) :
    ((B5.postB B (pair a b c q) s).2 = 0 ∨ (B5.postB B (pair a b c q) s).2 = 3 ∨ (B5.postB B (pair a b c q) s).2 = 4 ∨ (B5.postB B (pair a b c q) s).2 = 5) := by
  have hk := pair_ok ha hb hc h0 h1
  unfold B5.postB
  rw [if_pos ⟨hB, (G1.rightL_iff _).2 ((G1.okL_iff _).1 hk).1, hs⟩, if_pos hk]
  unfold B5.mainB
  split
  · exact .inr (.inr (.inl rfl))
  · unfold B5.endB
    split
    · exact .inr (.inl rfl)
    · split
      · exact .inl rfl
      · exact .inr (.inr (.inr rfl))
theorem nos_i (a b c : Int) : impl_nosOk.f ([a] ++ [b] ++ [c]) = some (decide (N1.No a ∧ N1.No b ∧ N1.No c)) := by
  unfold impl_nosOk.f
  congr 1
  rw [Bool.eq_iff_iff, decide_eq_true_iff]
  simp [impl_nosOk.bad, N1.No, and_assoc]
end Go.Proofs.YtmfgajbkcnlkcaaGreat.BI
namespace Go.Proofs.YtmfgajbkcnlkcaaGreat.Pure
open Go Go.RowKit Go.Proofs.YtmfgajbkcnlkcaaGreat.P Go.Proofs.YtmfgajbkcnlkcaaGreatW.PrintWords Go.Proofs.YtmfgajbkcnlkcaaGreatW.PrintLast Go.Proofs.YtmfgajbkcnlkcaaGreat.EV Go.Proofs.YtmfgajbkcnlkcaaGreat.T1 Go.Proofs.YtmfgajbkcnlkcaaGreat.T2 Go.Proofs.YtmfgajbkcnlkcaaGreat.K1 Go.Proofs.YtmfgajbkcnlkcaaGreat.BK Go.Proofs.YtmfgajbkcnlkcaaGreat.BC Go.Proofs.YtmfgajbkcnlkcaaGreat.C1 Go.Proofs.YtmfgajbkcnlkcaaGreat.C2 Go.Proofs.YtmfgajbkcnlkcaaGreat.BA Go.Proofs.YtmfgajbkcnlkcaaGreat.BI
theorem ev_ {α : Type} {g : Nat → Option α} {r : α} (h : Ev g r := by
    repeat' first
    | with_reducible exact Ev_all_k fun _ => rfl
    | refine Ev_bind (by assumption) ?_
    | refine Ev.congr (fun k => if_pos (by first | rfl | assumption | omega | (dsimp only; omega))) ?_
    | refine Ev.congr (fun k => if_neg (by first | assumption | omega | decide | (dsimp only; omega) | (simp; done))) ?_) : Ev g r := h
set_option maxHeartbeats 16000000 in
theorem issue_both (A : LA) (I : LI) (B : LB) (L : LL) (T : LT) (d a1 a2 a3 a4 a5 : Int) (mA : A.length ≤ 1048576) (mI : I.length ≤ 1048576) (mB : B.length ≤ 1048576) (mL : L.length ≤ 1048576) (mT : T.length ≤ 1048576) :
    ∃ r : LA × LI × LB × LL × LT × Int × Int, Ev (fun k => own_BookIssue.f k A I B L T d a1 a2 a3 a4 a5) r ∧ Ev (fun k => impl_BookIssue.f k A I B L T d a1 a2 a3 a4 a5) r ∧ Short (r.1, r.2.1, r.2.2.1, r.2.2.2.1, r.2.2.2.2.1, r.2.2.2.2.2.1) := by
  unfold own_BookIssue.f impl_BookIssue.f
  have z0 : Short ([], [], [], [], [], 0) := ⟨by simp, by simp, by simp, by simp, by simp⟩
  obtain ⟨r, bS, bI, ht⟩ := books_all A I B L T d mA mI mB mL mT
  cases r with
  | false => exact ⟨([], [], [], [], [], 0, 1), ev_, ev_, z0⟩
  | true =>
    obtain ⟨okA1, okI1, okB1, okL1, d0, d1⟩ := ht rfl
    have s1 : Ev (fun _ => spec_l3No.f a1) (decide (N1.No a1)) := Ev_all_k fun _ => N1.no_s a1
    have s2 : Ev (fun _ => spec_l3No.f a2) (decide (N1.No a2)) := Ev_all_k fun _ => N1.no_s a2
    have s3 : Ev (fun _ => spec_l3No.f a3) (decide (N1.No a3)) := Ev_all_k fun _ => N1.no_s a3
    have s4 : Ev (fun _ => spec_l1Some.f a4 1) (decide (1 ≤ a4 ∧ a4 ≤ 1000000000000000)) := Ev_all_k fun _ => F1.some_s a4 1
    have s5 : Ev (fun _ => spec_l1Some.f a5 0) (decide (0 ≤ a5 ∧ a5 ≤ 1000000000000000)) := Ev_all_k fun _ => F1.some_s a5 0
    have i1 : Ev (fun _ => impl_nosOk.f ([a1] ++ [a2] ++ [a3])) (decide (N1.No a1 ∧ N1.No a2 ∧ N1.No a3)) := Ev_all_k fun _ => nos_i a1 a2 a3
    have i4 : Ev (fun _ => impl_in.f a4 1 1000000000000000) (decide (1 ≤ a4 ∧ a4 ≤ 1000000000000000)) := Ev_all_k fun _ => I1.in_i a4 1 _
    have i5 : Ev (fun _ => impl_in.f a5 0 1000000000000000) (decide (0 ≤ a5 ∧ a5 ≤ 1000000000000000)) := Ev_all_k fun _ => I1.in_i a5 0 _
    have cS : Ev (fun _ => spec_l6Copy.f A I B L T d) (A, I, B, L, T, d) := Ev_all_k fun _ => copy_s A I B L T d mA mI mB mL mT
    have cI : Ev (fun _ => impl_cloneBooks.f A I B L T d) (A, I, B, L, T, d) := Ev_all_k fun _ => copy_i A I B L T d mA mI mB mL mT
    by_cases c1 : N1.No a1
    case neg => rw [decide_eq_false c1] at s1; rw [decide_eq_false (fun h => c1 h.1)] at i1; exact ⟨([], [], [], [], [], 0, 1), ev_, ev_, z0⟩
    by_cases c2 : N1.No a2
    case neg => rw [decide_eq_true c1] at s1; rw [decide_eq_false c2] at s2; rw [decide_eq_false (fun h => c2 h.2.1)] at i1; exact ⟨([], [], [], [], [], 0, 1), ev_, ev_, z0⟩
    by_cases c3 : N1.No a3
    case neg => rw [decide_eq_true c1] at s1; rw [decide_eq_true c2] at s2; rw [decide_eq_false c3] at s3; rw [decide_eq_false (fun h => c3 h.2.2)] at i1; exact ⟨([], [], [], [], [], 0, 1), ev_, ev_, z0⟩
    rw [decide_eq_true c1] at s1; rw [decide_eq_true c2] at s2; rw [decide_eq_true c3] at s3; rw [decide_eq_true ⟨c1, c2, c3⟩] at i1
    by_cases c4 : 1 ≤ a4 ∧ a4 ≤ 1000000000000000
    case neg => rw [decide_eq_false c4] at s4 i4; exact ⟨([], [], [], [], [], 0, 1), ev_, ev_, z0⟩
    rw [decide_eq_true c4] at s4 i4
    by_cases c5 : 0 ≤ a5 ∧ a5 ≤ 1000000000000000
    case neg => rw [decide_eq_false c5] at s5 i5; exact ⟨([], [], [], [], [], 0, 1), ev_, ev_, z0⟩
    rw [decide_eq_true c5] at s5 i5
    have same : Short (A, I, B, L, T, d) := ⟨by dsimp only; omega, by dsimp only; omega, by dsimp only; omega, by dsimp only; omega, by dsimp only; omega⟩
    have x1 : Ev (fun k => spec_AccountKind.f k A a1) (kindA A a1) := by have := kindOkA_s A a1 (by omega); unfold kindOkA at this; rwa [if_pos okA1] at this
    have x2 : Ev (fun k => spec_AccountKind.f k A a2) (kindA A a2) := by have := kindOkA_s A a2 (by omega); unfold kindOkA at this; rwa [if_pos okA1] at this
    have x3 : Ev (fun k => spec_InstrKind.f k I a3) (kindI I a3) := by have := kindOkI_s I a3 (by omega); unfold kindOkI at this; rwa [if_pos okI1] at this
    have y1 := kindL_i A a1 (by omega)
    have y2 := kindL_i A a2 (by omega)
    have y3 := kindM_i I a3 (by omega)
    generalize kindA A a1 = x at x1 y1
    generalize kindA A a2 = y at x2 y2
    generalize kindI I a3 = z at x3 y3
    by_cases hx0 : x = 0
    · exact ⟨(A, I, B, L, T, d, 3), ev_, ev_, same⟩
    by_cases hy0 : y = 0
    · exact ⟨(A, I, B, L, T, d, 3), ev_, ev_, same⟩
    by_cases hz0 : z = 0
    · have hz' : ¬ (!decide (z = 0)) = true := by simp [hz0]
      exact ⟨(A, I, B, L, T, d, 3), ev_, ev_, same⟩
    have hz' : (!decide (z = 0)) = true := by simp [hz0]
    by_cases hx : x = 2
    case neg => exact ⟨(A, I, B, L, T, d, 4), ev_, ev_, same⟩
    by_cases hy : y = 1
    case neg => exact ⟨(A, I, B, L, T, d, 4), ev_, ev_, same⟩
    have w4 : wrap64 (-a4) = -a4 := by unfold wrap64; omega
    have w4' : wrap64 (0 - a4) = -a4 := by unfold wrap64; omega
    have wd : wrap64 (d + 1) = d + 1 := by unfold wrap64; omega
    have lA : (shortL A).length ≤ 20 := Nat.le_trans (shortL_len A) ((okA_iff A).1 okA1).1
    have pS : Ev (fun _ => spec_l6Pair.f a1 a2 a3 a4) (pair a1 a2 a3 a4) := Ev_all_k fun _ => by unfold spec_l6Pair.f pair; rw [w4]
    have hS := short_s A I B L T d mA
    have qS := B5.post_s B (pair a1 a2 a3 a4) (shortL A) (by omega)
    have qI : Ev (fun k => impl_post.l0 k d A I B L T ([(⟨a1, a3, wrap64 (0 - a4)⟩ : S93)] ++ [(⟨a2, a3, a4⟩ : S93)]) (A.length : Int) 0 []) (postR (B5.postB B (pair a1 a2 a3 a4) (shortL A))) := by
      rw [w4']; exact post_m A I B L T (pair a1 a2 a3 a4) d mA mB
    have hcode := pair_post c1 c2 c3 c4.1 c4.2 okB1 lA
    have hlen : (B5.postB B (pair a1 a2 a3 a4) (shortL A)).1.length ≤ 1048577 := by
      have h1 := B6.postB_len B (pair a1 a2 a3 a4) (shortL A)
      have h2 := ((B1.okB_iff B).1 okB1).1
      omega
    generalize B5.postB B (pair a1 a2 a3 a4) (shortL A) = p at qS qI hcode hlen
    obtain ⟨pB, pc⟩ := p
    dsimp only at hcode hlen
    have oS : Ev (fun k => spec_LotOpen.f k L a2 a3 (wrap64 (d + 1)) a4 a5) (E4.openL L ⟨a2, a3, d + 1, a4, a5⟩) := by rw [wd]; exact E4.open_s L ⟨a2, a3, d + 1, a4, a5⟩ mL
    have oI : Ev (fun k => impl_LotOpen.f k L a2 a3 (wrap64 (d + 1)) a4 a5) (E4.openL L ⟨a2, a3, d + 1, a4, a5⟩) := by rw [wd]; exact E4.open_i L ⟨a2, a3, d + 1, a4, a5⟩ mL
    have olen := E4.open_len L ⟨a2, a3, d + 1, a4, a5⟩
    generalize E4.openL L ⟨a2, a3, d + 1, a4, a5⟩ = o at oS oI olen
    obtain ⟨oL, oc⟩ := o
    dsimp only at olen
    have posted : Short (A, I, pB, L, T, d) := ⟨by dsimp only; omega, by dsimp only; omega, hlen, by dsimp only; omega, by dsimp only; omega⟩
    have opened : Short (A, I, pB, oL, T, wrap64 (d + 1)) := ⟨by dsimp only; omega, by dsimp only; omega, hlen, by dsimp only; omega, by dsimp only; omega⟩
    by_cases ha : a5 = 0
    · rcases hcode with rfl | rfl | rfl | rfl
      · replace qI : Ev (fun k => impl_post.l0 k d A I B L T ([(⟨a1, a3, wrap64 (0 - a4)⟩ : S93)] ++ [(⟨a2, a3, a4⟩ : S93)]) (A.length : Int) 0 []) (true, pB, 0) := qI
        by_cases hz2 : z = 2
        case neg => exact ⟨(A, I, pB, L, T, d, 0), ev_, ev_, posted⟩
        by_cases hd : d ≥ 1000000000
        · exact ⟨(A, I, B, L, T, d, 7), ev_, ev_, same⟩
        by_cases ho : oc = 0
        · exact ⟨(A, I, pB, oL, T, wrap64 (d + 1), 0), ev_, ev_, opened⟩
        · exact ⟨(A, I, B, L, T, d, 7), ev_, ev_, same⟩
      · replace qI : Ev (fun k => impl_post.l0 k d A I B L T ([(⟨a1, a3, wrap64 (0 - a4)⟩ : S93)] ++ [(⟨a2, a3, a4⟩ : S93)]) (A.length : Int) 0 []) (false, [], 5) := qI
        exact ⟨(A, I, B, L, T, d, 5), ev_, ev_, same⟩
      · replace qI : Ev (fun k => impl_post.l0 k d A I B L T ([(⟨a1, a3, wrap64 (0 - a4)⟩ : S93)] ++ [(⟨a2, a3, a4⟩ : S93)]) (A.length : Int) 0 []) (false, [], 8) := qI
        exact ⟨(A, I, B, L, T, d, 8), ev_, ev_, same⟩
      · replace qI : Ev (fun k => impl_post.l0 k d A I B L T ([(⟨a1, a3, wrap64 (0 - a4)⟩ : S93)] ++ [(⟨a2, a3, a4⟩ : S93)]) (A.length : Int) 0 []) (false, [], 7) := qI
        exact ⟨(A, I, B, L, T, d, 7), ev_, ev_, same⟩
    · by_cases hz1 : z = 1
      · exact ⟨(A, I, B, L, T, d, 4), ev_, ev_, same⟩
      rcases hcode with rfl | rfl | rfl | rfl
      · replace qI : Ev (fun k => impl_post.l0 k d A I B L T ([(⟨a1, a3, wrap64 (0 - a4)⟩ : S93)] ++ [(⟨a2, a3, a4⟩ : S93)]) (A.length : Int) 0 []) (true, pB, 0) := qI
        by_cases hz2 : z = 2
        case neg => exact ⟨(A, I, pB, L, T, d, 0), ev_, ev_, posted⟩
        by_cases hd : d ≥ 1000000000
        · exact ⟨(A, I, B, L, T, d, 7), ev_, ev_, same⟩
        by_cases ho : oc = 0
        · exact ⟨(A, I, pB, oL, T, wrap64 (d + 1), 0), ev_, ev_, opened⟩
        · exact ⟨(A, I, B, L, T, d, 7), ev_, ev_, same⟩
      · replace qI : Ev (fun k => impl_post.l0 k d A I B L T ([(⟨a1, a3, wrap64 (0 - a4)⟩ : S93)] ++ [(⟨a2, a3, a4⟩ : S93)]) (A.length : Int) 0 []) (false, [], 5) := qI
        exact ⟨(A, I, B, L, T, d, 5), ev_, ev_, same⟩
      · replace qI : Ev (fun k => impl_post.l0 k d A I B L T ([(⟨a1, a3, wrap64 (0 - a4)⟩ : S93)] ++ [(⟨a2, a3, a4⟩ : S93)]) (A.length : Int) 0 []) (false, [], 8) := qI
        exact ⟨(A, I, B, L, T, d, 8), ev_, ev_, same⟩
      · replace qI : Ev (fun k => impl_post.l0 k d A I B L T ([(⟨a1, a3, wrap64 (0 - a4)⟩ : S93)] ++ [(⟨a2, a3, a4⟩ : S93)]) (A.length : Int) 0 []) (false, [], 7) := qI
        exact ⟨(A, I, B, L, T, d, 7), ev_, ev_, same⟩
theorem FnExactBookIssue : ∀ (l0_0 : List (S103)) (l0_1 : List (S105)) (l0_2 : List (S108)) (l0_3 : List (S112)) (l0_4 : List (S114)) (a0_5 : Int) (a1 : Int) (a2 : Int) (a3 : Int) (a4 : Int) (a5 : Int), l0_0.length ≤ 9223372036854775807 → (∀ x ∈ l0_0, (Lit.int .i64 x.f0).wf = true ∧ (Lit.int .i64 x.f1).wf = true) → l0_1.length ≤ 9223372036854775807 → (∀ x ∈ l0_1, (Lit.int .i64 x.f0).wf = true ∧ (Lit.int .i64 x.f1).wf = true) → l0_2.length ≤ 9223372036854775807 → (∀ x ∈ l0_2, (Lit.int .i64 x.f0).wf = true ∧ (Lit.int .i64 x.f1).wf = true ∧ (Lit.int .i64 x.f2).wf = true) → l0_3.length ≤ 9223372036854775807 → (∀ x ∈ l0_3, (Lit.int .i64 x.f0).wf = true ∧ (Lit.int .i64 x.f1).wf = true ∧ (Lit.int .i64 x.f2).wf = true ∧ (Lit.int .i64 x.f3).wf = true ∧ (Lit.int .i64 x.f4).wf = true) → l0_4.length ≤ 9223372036854775807 → (∀ x ∈ l0_4, (Lit.int .i64 x.f0).wf = true ∧ (Lit.int .i64 x.f1).wf = true ∧ (Lit.int .i64 x.f2).wf = true ∧ (Lit.int .i64 x.f3).wf = true ∧ (Lit.int .i64 x.f4).wf = true ∧ (Lit.int .i64 x.f5).wf = true ∧ (Lit.int .i64 x.f6).wf = true ∧ (Lit.int .i64 x.f7).wf = true) → (Lit.int .i64 a0_5).wf = true → (Lit.int .i64 a1).wf = true → (Lit.int .i64 a2).wf = true → (Lit.int .i64 a3).wf = true → (Lit.int .i64 a4).wf = true → (Lit.int .i64 a5).wf = true → ∃ k, laws_FnExactBookIssue.f k l0_0 l0_1 l0_2 l0_3 l0_4 a0_5 a1 a2 a3 a4 a5 = some true := by
  intro l0 l1 l2 l3 l4 d a1 a2 a3 a4 a5 m0 _ m1 _ m2 _ m3 _ m4 _ _ _ _ _ _ _
  refine Ev.rounds ?_
  unfold laws_FnExactBookIssue.f
  rcases sz_Books l0 l1 l2 l3 l4 d m0 m1 m2 m3 m4 with ⟨n, hn, e⟩ | ⟨h0, h1, h2, h3, h4, n, hn, e⟩
  · exact Ev_all_k fun k => by rw [e, Option.bind_some, if_pos hn]
  have tb := to_Books l0 l1 l2 l3 l4 d h0 h1 h2 h3 h4
  have g0 : (l0.map cvAccount).length ≤ 1048576 := by rw [List.length_map]; exact h0
  have g1 : (l1.map cvInstr).length ≤ 1048576 := by rw [List.length_map]; exact h1
  have g2 : (l2.map cvBal).length ≤ 1048576 := by rw [List.length_map]; exact h2
  have g3 : (l3.map cvLot).length ≤ 1048576 := by rw [List.length_map]; exact h3
  have g4 : (l4.map cvTrade).length ≤ 1048576 := by rw [List.length_map]; exact h4
  have eb := eq_Books (l0.map cvAccount) (l1.map cvInstr) (l2.map cvBal) (l3.map cvLot) (l4.map cvTrade) d (by omega) (by omega) (by omega) (by omega) (by omega)
  obtain ⟨r, hS, hI, s0, s1, s2, s3, s4⟩ := issue_both (l0.map cvAccount) (l1.map cvInstr) (l2.map cvBal) (l3.map cvLot) (l4.map cvTrade) d a1 a2 a3 a4 a5 g0 g1 g2 g3 g4
  have er := eq_Books r.1 r.2.1 r.2.2.1 r.2.2.2.1 r.2.2.2.2.1 r.2.2.2.2.2.1 (Nat.le_trans s0 (by decide)) (Nat.le_trans s1 (by decide)) (Nat.le_trans s2 (by decide)) (Nat.le_trans s3 (by decide)) (Nat.le_trans s4 (by decide))
  obtain ⟨u, u0, uM, _⟩ := mark_Books (l0.map cvAccount) (l1.map cvInstr) (l2.map cvBal) (l3.map cvLot) (l4.map cvTrade) d (by omega) (by omega) (by omega) (by omega) (by omega)
  obtain ⟨v, v0, vM, vH⟩ := mark_Books r.1 r.2.1 r.2.2.1 r.2.2.2.1 r.2.2.2.2.1 r.2.2.2.2.2.1 s0 s1 s2 s3 s4
  refine Ev.congr (fun k => by rw [e, Option.bind_some, if_neg (by omega)]) ?_
  exact Ev_bind tb (Ev_bind hS (Ev_bind tb (Ev_bind hI (Ev_bind er (Ev.congr (fun k => if_pos rfl) (Ev.congr (fun k => if_pos rfl) (Ev_bind tb (Ev_bind eb (Ev.congr (fun k => if_pos rfl) (Ev_bind uM (Ev.congr (fun k => if_neg (by omega)) (Ev_bind er (Ev.congr (fun k => if_pos rfl) (Ev.congr (fun k => if_pos rfl) (Ev_bind vM (Ev_bind vH (Ev.congr (fun k => if_neg (by omega)) (Ev.congr (fun k => if_pos rfl) (Ev_bind tb (Ev_bind hI (Ev_bind er (Ev.congr (fun k => if_pos rfl) (Ev.congr (fun k => if_pos rfl) (Ev_bind vH (Ev.congr (fun k => if_neg (by omega)) (Ev_all_k fun k => if_pos rfl))))))))))))))))))))))))))
end Go.Proofs.YtmfgajbkcnlkcaaGreat.Pure
namespace Go.Proofs.YtmfgajbkcnlkcaaGreat.RS
open Go Go.ChangeShapes Go.WideShapes Go.Deep Go.RowKit Go.Proofs.YtmfgajbkcnlkcaaGreatW.PrintWords
def allInts (P : Program) (fs : Array Field) : Bool := (List.range fs.size).all fun i => match fs[i]? with
  | some f => (match P.underlying f.type with | some (.int .i64) => true | _ => false)
  | none => false
theorem allInts_of {P : Program} {fs : Array Field} (h : allInts P fs = true) : ∀ (i : Nat) (f : Field), fs[i]? = some f → P.underlying f.type = some (.int .i64) := by
  intro i f hi
  have hlt : i < fs.size := (Array.getElem?_eq_some_iff.1 hi).1
  have z := List.all_eq_true.1 h i (List.mem_range.2 hlt)
  simp only [hi] at z
  split at z
  · assumption
  · cases z
section
variable {H : Type} {enc : TypeId × Value → H} {P : Program} {w : World} {base : Nat} {spare : Nat → Bool} {held : Bool}
theorem open_rows {t e : TypeId} {fs : Array Field} {fuel : Nat} {v : Value} {x : DataW H × List MemPlace} (ht : P.underlying t = some (.slice e)) (he : P.underlying e = some (.struct fs))
    (hone : oneCellFields P fs = true) (hint : allInts P fs = true) (hC : P.cellsOf e = fs.size) (h : DataW.trod enc P w base spare held fuel t [v] = some x) :
    ∃ (A : Option Addr) (len cap : Nat) (X : Nat → Nat → Int), v = .slice A len cap ∧ len ≤ cap ∧ cap ≤ maxLen ∧
      (0 < len → ∃ ad, A = some ad ∧ ∀ i, i < len → ∀ j, j < fs.size → w.cell? (ad.add (i * fs.size + j)) = some (.int .i64 (X i j)) ∧ (Lit.int .i64 (X i j)).wf = true) := by
  rcases open_slice ht h with ⟨hcs, _⟩ | ⟨a, len, cap, m, n, D, Pl, hcs, _, hl, hm, hmm, _, hi⟩
  · simp only [List.cons.injEq, and_true] at hcs
    exact ⟨none, 0, 0, fun _ _ => 0, hcs, Nat.le_refl _, Nat.zero_le _, fun hp => absurd hp (Nat.lt_irrefl 0)⟩
  · simp only [List.cons.injEq, and_true] at hcs
    have hmle : len ≤ m := by rw [hmm]; split <;> omega
    have key : ∀ i, i < len → ∃ f : Nat → Int, ∀ j, j < fs.size → w.cell? (a.add (i * fs.size + j)) = some (.int .i64 (f j)) ∧ (Lit.int .i64 (f j)).wf = true := by
      intro i him
      obtain ⟨cs', hc, ht'⟩ := hi i (by omega)
      rw [hC] at hc
      obtain ⟨ys, n', hn', hy, hlen, hyl, hf⟩ := DataW.trod_struct he ht'
      obtain ⟨_, hcl, hat⟩ := World.cells?_some hc
      refine choose_lt (α := Int) (n := fs.size) (p := fun j q => w.cell? (a.add (i * fs.size + j)) = some (.int .i64 q) ∧ (Lit.int .i64 q).wf = true) fun j hj => ?_
      have hfj : fs[j]? = some fs[j] := Array.getElem?_eq_getElem hj
      obtain ⟨ho, hk⟩ := hone_of hone j _ hfj
      have h1 := hf j _ hfj
      rw [ho, hk, take1_drop cs' j undef (by omega)] at h1
      have hys : ys[j]? = some (ys[j]'(by omega)) := List.getElem?_eq_getElem (by omega)
      rw [hys] at h1
      obtain ⟨q, hq, _, hwf⟩ := DataW.trod_int (allInts_of hint j _ hfj) h1
      simp only [List.cons.injEq, and_true] at hq
      have hcell := hat j (by omega)
      rw [List.getElem?_eq_getElem (by omega)] at hcell
      have hgd : cs'.getD j undef = cs'[j]'(by omega) := by
        rw [List.getD_eq_getElem?_getD, List.getElem?_eq_getElem (by omega), Option.getD_some]
      rw [hgd] at hq
      exact ⟨q, by rw [← Go.Deep.add_add, hcell, hq], hwf⟩
    obtain ⟨X, hX⟩ := choose_lt (α := Nat → Int) (n := len) (p := fun i f => ∀ j, j < fs.size → w.cell? (a.add (i * fs.size + j)) = some (.int .i64 (f j)) ∧ (Lit.int .i64 (f j)).wf = true) key
    exact ⟨some a, len, cap, X, hcs, hl, hm, fun _ => ⟨a, rfl, fun i him => hX i him⟩⟩
theorem open_val {r : Reach} {b0 : Nat} {t : TypeId} {fs : Array Field} {v : Value} {d : DataW H} {p : List MemPlace} (hs : P.underlying t = some (.struct fs)) (hone : oneCellFields P fs = true) (hC : P.cellsOf t = fs.size)
    (hv : Value.okWide P w r b0 t v) (h : DataW.Trod enc P w base spare held t v d p) :
    ∃ (cs : List Value) (n : Nat), v = .agg cs.toArray ∧ cs.length = fs.size ∧ ∀ (j : Nat) (f : Field), fs[j]? = some f → ∃ y, DataW.trod enc P w base spare held n f.type [cs.getD j undef] = some y := by
  obtain ⟨cs, rfl, hsz⟩ := okWide_struct hs hv
  obtain ⟨l⟩ := cs
  obtain ⟨fuel, hf⟩ := h
  obtain ⟨ys, n, _, _, _, hyl, hg⟩ := DataW.trod_struct hs hf
  have hl : l.length = fs.size := by rw [← hC]; exact hsz
  refine ⟨l, n, rfl, hl, fun j f hj => ?_⟩
  have hjl : j < fs.size := (Array.getElem?_eq_some_iff.1 hj).1
  obtain ⟨ho, hk⟩ := hone_of hone j f hj
  have h1 := hg j f hj
  have hcells : (Value.agg ⟨l⟩).cells.toList = l := rfl
  rw [ho, hk] at h1
  first | rw [hcells, take1_drop l j undef (by omega)] at h1 | rw [take1_drop l j undef (by omega)] at h1
  have hys : ys[j]? = some (ys[j]'(by omega)) := List.getElem?_eq_getElem (by omega)
  exact ⟨_, h1.trans hys⟩
theorem int_of {n : Nat} {t : TypeId} {v : Value} {x : DataW H × List MemPlace} (ht : P.underlying t = some (.int .i64)) (h : DataW.trod enc P w base spare held n t [v] = some x) : ∃ q : Int, v = .int .i64 q ∧ (Lit.int .i64 q).wf = true := by
  obtain ⟨q, hq, _, hw⟩ := DataW.trod_int ht h
  simp only [List.cons.injEq, and_true] at hq
  exact ⟨q, hq, hw⟩
end
theorem getD_range {α : Type} (n : Nat) (f : Nat → α) (i : Nat) (p : α) (h : ((List.range n).map f)[i]? = some p) : i < n ∧ p = f i := by
  have hi := (List.getElem?_eq_some_iff.1 h).1
  simp only [List.length_map, List.length_range] at hi
  refine ⟨hi, ?_⟩
  rw [List.getElem?_map, List.getElem?_range hi] at h
  simpa using h.symm
theorem mem_map_range {α : Type} {n : Nat} {f : Nat → α} {x : α} (h : x ∈ (List.range n).map f) : ∃ i, i < n ∧ x = f i := by
  obtain ⟨i, hi, rfl⟩ := List.mem_map.1 h
  exact ⟨i, List.mem_range.1 hi, rfl⟩
theorem len6 : ∀ {cs : List Value}, cs.length = 6 → ∃ x0 x1 x2 x3 x4 x5, cs = [x0, x1, x2, x3, x4, x5]
  | [x0, x1, x2, x3, x4, x5], _ => ⟨x0, x1, x2, x3, x4, x5, rfl⟩
end Go.Proofs.YtmfgajbkcnlkcaaGreat.RS
namespace Go.Proofs.YtmfgajbkcnlkcaaGreat.RT
open Go Go.RowKit Go.Proofs.YtmfgajbkcnlkcaaGreat.P Go.Proofs.YtmfgajbkcnlkcaaGreatW.PrintWords Go.Proofs.YtmfgajbkcnlkcaaGreatW.PrintLast
theorem row103 {W : World} {A : Option Addr} {len : Nat} {X : Nat → Nat → Int} (hm : len ≤ maxLen) (hx : 0 < len → ∃ ad, A = some ad ∧ ∀ i, i < len → ∀ j, j < 2 → W.cell? (ad.add (i * 2 + j)) = some (.int .i64 (X i j)) ∧ (Lit.int .i64 (X i j)).wf = true) :
    ∃ l : List S103, len = l.length ∧ Kd.C k103 W A l.length l ∧ ∀ x ∈ l, (Lit.int .i64 x.f0).wf = true ∧ (Lit.int .i64 x.f1).wf = true := by
  refine ⟨(List.range len).map fun i => (⟨X i 0, X i 1⟩ : S103), by simp, ⟨rfl, by simp only [List.length_map, List.length_range]; exact hm, fun hn => ?_⟩, fun x hxm => ?_⟩
  · obtain ⟨ad, e, hc⟩ := hx (by simpa using hn)
    refine ⟨ad, e, fun j p hj => ⟨_, rfl, k103_mk W p, fun i u hu => ?_⟩⟩
    obtain ⟨hjl, rfl⟩ := RS.getD_range _ _ _ _ hj
    have hi : i < 2 := (List.getElem?_eq_some_iff.1 hu).1
    have hcell := (hc j hjl i hi).1
    match i, hi, hu, hcell with
    | 0, _, hu, hcell => exact hcell.trans hu
    | 1, _, hu, hcell => exact hcell.trans hu
  · obtain ⟨i, hi, rfl⟩ := RS.mem_map_range hxm
    obtain ⟨ad, e, hc⟩ := hx (by omega)
    exact ⟨(hc i hi 0 (by decide)).2, (hc i hi 1 (by decide)).2⟩
theorem row105 {W : World} {A : Option Addr} {len : Nat} {X : Nat → Nat → Int} (hm : len ≤ maxLen) (hx : 0 < len → ∃ ad, A = some ad ∧ ∀ i, i < len → ∀ j, j < 2 → W.cell? (ad.add (i * 2 + j)) = some (.int .i64 (X i j)) ∧ (Lit.int .i64 (X i j)).wf = true) :
    ∃ l : List S105, len = l.length ∧ Kd.C k105 W A l.length l ∧ ∀ x ∈ l, (Lit.int .i64 x.f0).wf = true ∧ (Lit.int .i64 x.f1).wf = true := by
  refine ⟨(List.range len).map fun i => (⟨X i 0, X i 1⟩ : S105), by simp, ⟨rfl, by simp only [List.length_map, List.length_range]; exact hm, fun hn => ?_⟩, fun x hxm => ?_⟩
  · obtain ⟨ad, e, hc⟩ := hx (by simpa using hn)
    refine ⟨ad, e, fun j p hj => ⟨_, rfl, k105_mk W p, fun i u hu => ?_⟩⟩
    obtain ⟨hjl, rfl⟩ := RS.getD_range _ _ _ _ hj
    have hi : i < 2 := (List.getElem?_eq_some_iff.1 hu).1
    have hcell := (hc j hjl i hi).1
    match i, hi, hu, hcell with
    | 0, _, hu, hcell => exact hcell.trans hu
    | 1, _, hu, hcell => exact hcell.trans hu
  · obtain ⟨i, hi, rfl⟩ := RS.mem_map_range hxm
    obtain ⟨ad, e, hc⟩ := hx (by omega)
    exact ⟨(hc i hi 0 (by decide)).2, (hc i hi 1 (by decide)).2⟩
theorem row108 {W : World} {A : Option Addr} {len : Nat} {X : Nat → Nat → Int} (hm : len ≤ maxLen) (hx : 0 < len → ∃ ad, A = some ad ∧ ∀ i, i < len → ∀ j, j < 3 → W.cell? (ad.add (i * 3 + j)) = some (.int .i64 (X i j)) ∧ (Lit.int .i64 (X i j)).wf = true) :
    ∃ l : List S108, len = l.length ∧ Kd.C k108 W A l.length l ∧ ∀ x ∈ l, (Lit.int .i64 x.f0).wf = true ∧ (Lit.int .i64 x.f1).wf = true ∧ (Lit.int .i64 x.f2).wf = true := by
  refine ⟨(List.range len).map fun i => (⟨X i 0, X i 1, X i 2⟩ : S108), by simp, ⟨rfl, by simp only [List.length_map, List.length_range]; exact hm, fun hn => ?_⟩, fun x hxm => ?_⟩
  · obtain ⟨ad, e, hc⟩ := hx (by simpa using hn)
    refine ⟨ad, e, fun j p hj => ⟨_, rfl, k108_mk W p, fun i u hu => ?_⟩⟩
    obtain ⟨hjl, rfl⟩ := RS.getD_range _ _ _ _ hj
    have hi : i < 3 := (List.getElem?_eq_some_iff.1 hu).1
    have hcell := (hc j hjl i hi).1
    match i, hi, hu, hcell with
    | 0, _, hu, hcell => exact hcell.trans hu
    | 1, _, hu, hcell => exact hcell.trans hu
    | 2, _, hu, hcell => exact hcell.trans hu
  · obtain ⟨i, hi, rfl⟩ := RS.mem_map_range hxm
    obtain ⟨ad, e, hc⟩ := hx (by omega)
    exact ⟨(hc i hi 0 (by decide)).2, (hc i hi 1 (by decide)).2, (hc i hi 2 (by decide)).2⟩
theorem row112 {W : World} {A : Option Addr} {len : Nat} {X : Nat → Nat → Int} (hm : len ≤ maxLen) (hx : 0 < len → ∃ ad, A = some ad ∧ ∀ i, i < len → ∀ j, j < 5 → W.cell? (ad.add (i * 5 + j)) = some (.int .i64 (X i j)) ∧ (Lit.int .i64 (X i j)).wf = true) :
    ∃ l : List S112, len = l.length ∧ Kd.C k112 W A l.length l ∧ ∀ x ∈ l, (Lit.int .i64 x.f0).wf = true ∧ (Lit.int .i64 x.f1).wf = true ∧ (Lit.int .i64 x.f2).wf = true ∧ (Lit.int .i64 x.f3).wf = true ∧ (Lit.int .i64 x.f4).wf = true := by
  refine ⟨(List.range len).map fun i => (⟨X i 0, X i 1, X i 2, X i 3, X i 4⟩ : S112), by simp, ⟨rfl, by simp only [List.length_map, List.length_range]; exact hm, fun hn => ?_⟩, fun x hxm => ?_⟩
  · obtain ⟨ad, e, hc⟩ := hx (by simpa using hn)
    refine ⟨ad, e, fun j p hj => ⟨_, rfl, k112_mk W p, fun i u hu => ?_⟩⟩
    obtain ⟨hjl, rfl⟩ := RS.getD_range _ _ _ _ hj
    have hi : i < 5 := (List.getElem?_eq_some_iff.1 hu).1
    have hcell := (hc j hjl i hi).1
    match i, hi, hu, hcell with
    | 0, _, hu, hcell => exact hcell.trans hu
    | 1, _, hu, hcell => exact hcell.trans hu
    | 2, _, hu, hcell => exact hcell.trans hu
    | 3, _, hu, hcell => exact hcell.trans hu
    | 4, _, hu, hcell => exact hcell.trans hu
  · obtain ⟨i, hi, rfl⟩ := RS.mem_map_range hxm
    obtain ⟨ad, e, hc⟩ := hx (by omega)
    exact ⟨(hc i hi 0 (by decide)).2, (hc i hi 1 (by decide)).2, (hc i hi 2 (by decide)).2, (hc i hi 3 (by decide)).2, (hc i hi 4 (by decide)).2⟩
theorem row114 {W : World} {A : Option Addr} {len : Nat} {X : Nat → Nat → Int} (hm : len ≤ maxLen) (hx : 0 < len → ∃ ad, A = some ad ∧ ∀ i, i < len → ∀ j, j < 8 → W.cell? (ad.add (i * 8 + j)) = some (.int .i64 (X i j)) ∧ (Lit.int .i64 (X i j)).wf = true) :
    ∃ l : List S114, len = l.length ∧ Kd.C k114 W A l.length l ∧ ∀ x ∈ l, (Lit.int .i64 x.f0).wf = true ∧ (Lit.int .i64 x.f1).wf = true ∧ (Lit.int .i64 x.f2).wf = true ∧ (Lit.int .i64 x.f3).wf = true ∧ (Lit.int .i64 x.f4).wf = true ∧ (Lit.int .i64 x.f5).wf = true ∧ (Lit.int .i64 x.f6).wf = true ∧ (Lit.int .i64 x.f7).wf = true := by
  refine ⟨(List.range len).map fun i => (⟨X i 0, X i 1, X i 2, X i 3, X i 4, X i 5, X i 6, X i 7⟩ : S114), by simp, ⟨rfl, by simp only [List.length_map, List.length_range]; exact hm, fun hn => ?_⟩, fun x hxm => ?_⟩
  · obtain ⟨ad, e, hc⟩ := hx (by simpa using hn)
    refine ⟨ad, e, fun j p hj => ⟨_, rfl, k114_mk W p, fun i u hu => ?_⟩⟩
    obtain ⟨hjl, rfl⟩ := RS.getD_range _ _ _ _ hj
    have hi : i < 8 := (List.getElem?_eq_some_iff.1 hu).1
    have hcell := (hc j hjl i hi).1
    match i, hi, hu, hcell with
    | 0, _, hu, hcell => exact hcell.trans hu
    | 1, _, hu, hcell => exact hcell.trans hu
    | 2, _, hu, hcell => exact hcell.trans hu
    | 3, _, hu, hcell => exact hcell.trans hu
    | 4, _, hu, hcell => exact hcell.trans hu
    | 5, _, hu, hcell => exact hcell.trans hu
    | 6, _, hu, hcell => exact hcell.trans hu
    | 7, _, hu, hcell => exact hcell.trans hu
  · obtain ⟨i, hi, rfl⟩ := RS.mem_map_range hxm
    obtain ⟨ad, e, hc⟩ := hx (by omega)
    exact ⟨(hc i hi 0 (by decide)).2, (hc i hi 1 (by decide)).2, (hc i hi 2 (by decide)).2, (hc i hi 3 (by decide)).2, (hc i hi 4 (by decide)).2, (hc i hi 5 (by decide)).2, (hc i hi 6 (by decide)).2, (hc i hi 7 (by decide)).2⟩
end Go.Proofs.YtmfgajbkcnlkcaaGreat.RT
namespace Go.Proofs.YtmfgajbkcnlkcaaGreat.fnExactBookIssue
open Go.ChangeShapes Go.WideShapes Go.ChangeAt Go.RowKit Go.Proofs.YtmfgajbkcnlkcaaGreatW.PrintWords
open Go.ChangeMaps (open_string shut_string)
set_option linter.unusedVariables false
theorem own : ownKnob Tryz.prog.godebug = none := by kernel_rfl
theorem laidOut : laidOutB Tryz.prog = true := by kernel_rfl
set_option maxRecDepth 100000 in
theorem lifted (os : Os) (started : os.Started) (H : Type) (enc : TypeId × Value → H) :
    ReturnsInHanded {} Tryz.checked os 6 .any (Rows.fnExactBookIssueSpec.pre6 enc Tryz.prog Tryz.f6 Rows.fnExactBookIssueRow.domain false) (Rows.fnExactBookIssueSpec.post enc Tryz.prog Tryz.f6 false true false false) := by
  refine returnsInHanded_of_change_sized (C := Tryz.checked) own started (by kernel_rfl) Tryz.func6
    (ChangeSpec.witness6 (enc := enc) (C := Tryz.checked) false ⟨#[], #[.agg #[.slice none 0 0, .slice none 0 0, .slice none 0 0, .slice none 0 0, .slice none 0 0, .int .i64 0], .int .i64 0, .int .i64 0, .int .i64 0, .int .i64 0, .int .i64 0], []⟩ 8 (by kernel_rfl) (by kernel_rfl) (by kernel_rfl) (by kernel_rfl)) ?_
  intro W base args ds gs before hval0 hW hcnd hsz0 _
  have hsz : (DataW.weightsEach Tryz.prog (Tryz.f6.params.toList ++ Rows.fnExactBookIssueSpec.plain.varTypes Tryz.prog) (ds ++ gs)).all (· ≤ reachBytes) = true := hsz0
  have hval : ∀ (j : Nat) t v, Tryz.f6.params[j]? = some t → args[j]? = some v → Value.okWide Tryz.prog W .any base t v := hval0
  have hW' := hW
  obtain ⟨p, q, hA0, hV, rfl, hfz, hnd⟩ := hW
  have hA : DataW.TrodAll enc Tryz.prog W 0 (fun _ => true) true Tryz.f6.params.toList args.toList ds p := hA0
  rw [Tryz.params6] at hA hval hsz
  obtain ⟨v0, vs0, d0, ds0, p0, q0, hargs, rfl, rfl, h0, r0⟩ := trodAll_cons hA
  obtain ⟨v1, vs1, d1, ds1, p1, q1, rfl, rfl, rfl, h1, r1⟩ := trodAll_cons r0
  obtain ⟨v2, vs2, d2, ds2, p2, q2, rfl, rfl, rfl, h2, r2⟩ := trodAll_cons r1
  obtain ⟨v3, vs3, d3, ds3, p3, q3, rfl, rfl, rfl, h3, r3⟩ := trodAll_cons r2
  obtain ⟨v4, vs4, d4, ds4, p4, q4, rfl, rfl, rfl, h4, r4⟩ := trodAll_cons r3
  obtain ⟨v5, vs5, d5, ds5, p5, q5, rfl, rfl, rfl, h5, r5⟩ := trodAll_cons r4
  obtain ⟨rfl, rfl, rfl⟩ := trodAll_nil r5
  obtain rfl : args = #[v0, v1, v2, v3, v4, v5] := by cases args; simp_all
  obtain ⟨rfl, rfl⟩ := trodVars_none hV
  have k0 := h0
  have lt0 : ∀ x ∈ p0, x.block < W.heap.size := by obtain ⟨m, hm⟩ := k0; exact DataW.trod_lt m _ _ _ hm
  obtain ⟨cs0, n0, rfl, hcl0, hg0⟩ := RS.open_val Tryz.underlying28 (by kernel_rfl) (by kernel_rfl) (hval 0 28 v0 rfl rfl) h0
  have hcn0 : cs0.length = 6 := hcl0.trans (by kernel_rfl)
  clear hcl0
  obtain ⟨b0_0, b0_1, b0_2, b0_3, b0_4, b0_5, rfl⟩ := RS.len6 hcn0
  obtain ⟨y0_0, hy0_0⟩ := hg0 0 _ rfl
  obtain ⟨A0_0, n0_0, c0_0, X0_0, hv0_0, hl0_0, hm0_0, hx0_0⟩ := RS.open_rows Tryz.underlying22 Tryz.underlying103 (by kernel_rfl) (by kernel_rfl) (by kernel_rfl) (v := b0_0) hy0_0
  subst hv0_0
  obtain ⟨l0_0, e0_0, hr0_0, hw0_0⟩ := RT.row103 (Nat.le_trans hl0_0 hm0_0) hx0_0
  subst e0_0
  obtain ⟨y0_1, hy0_1⟩ := hg0 1 _ rfl
  obtain ⟨A0_1, n0_1, c0_1, X0_1, hv0_1, hl0_1, hm0_1, hx0_1⟩ := RS.open_rows Tryz.underlying23 Tryz.underlying105 (by kernel_rfl) (by kernel_rfl) (by kernel_rfl) (v := b0_1) hy0_1
  subst hv0_1
  obtain ⟨l0_1, e0_1, hr0_1, hw0_1⟩ := RT.row105 (Nat.le_trans hl0_1 hm0_1) hx0_1
  subst e0_1
  obtain ⟨y0_2, hy0_2⟩ := hg0 2 _ rfl
  obtain ⟨A0_2, n0_2, c0_2, X0_2, hv0_2, hl0_2, hm0_2, hx0_2⟩ := RS.open_rows Tryz.underlying24 Tryz.underlying108 (by kernel_rfl) (by kernel_rfl) (by kernel_rfl) (v := b0_2) hy0_2
  subst hv0_2
  obtain ⟨l0_2, e0_2, hr0_2, hw0_2⟩ := RT.row108 (Nat.le_trans hl0_2 hm0_2) hx0_2
  subst e0_2
  obtain ⟨y0_3, hy0_3⟩ := hg0 3 _ rfl
  obtain ⟨A0_3, n0_3, c0_3, X0_3, hv0_3, hl0_3, hm0_3, hx0_3⟩ := RS.open_rows Tryz.underlying25 Tryz.underlying112 (by kernel_rfl) (by kernel_rfl) (by kernel_rfl) (v := b0_3) hy0_3
  subst hv0_3
  obtain ⟨l0_3, e0_3, hr0_3, hw0_3⟩ := RT.row112 (Nat.le_trans hl0_3 hm0_3) hx0_3
  subst e0_3
  obtain ⟨y0_4, hy0_4⟩ := hg0 4 _ rfl
  obtain ⟨A0_4, n0_4, c0_4, X0_4, hv0_4, hl0_4, hm0_4, hx0_4⟩ := RS.open_rows Tryz.underlying26 Tryz.underlying114 (by kernel_rfl) (by kernel_rfl) (by kernel_rfl) (v := b0_4) hy0_4
  subst hv0_4
  obtain ⟨l0_4, e0_4, hr0_4, hw0_4⟩ := RT.row114 (Nat.le_trans hl0_4 hm0_4) hx0_4
  subst e0_4
  obtain ⟨y0_5, hy0_5⟩ := hg0 5 _ rfl
  obtain ⟨a0_5, hq0_5, hw0_5⟩ := RS.int_of (v := b0_5) Tryz.underlying3 hy0_5
  subst hq0_5
  obtain ⟨a1, rfl, rfl, rfl, w1⟩ := open_int Tryz.underlying3 (hval 1 3 v1 rfl rfl) h1
  obtain ⟨a2, rfl, rfl, rfl, w2⟩ := open_int Tryz.underlying3 (hval 2 3 v2 rfl rfl) h2
  obtain ⟨a3, rfl, rfl, rfl, w3⟩ := open_int Tryz.underlying3 (hval 3 3 v3 rfl rfl) h3
  obtain ⟨a4, rfl, rfl, rfl, w4⟩ := open_int Tryz.underlying3 (hval 4 3 v4 rfl rfl) h4
  obtain ⟨a5, rfl, rfl, rfl, w5⟩ := open_int Tryz.underlying3 (hval 5 3 v5 rfl rfl) h5
  clear hA0 hval0 hsz0 hsz
  obtain ⟨k, hpure⟩ := Pure.FnExactBookIssue l0_0 l0_1 l0_2 l0_3 l0_4 a0_5 a1 a2 a3 a4 a5 (Kd.C_max hr0_0) hw0_0 (Kd.C_max hr0_1) hw0_1 (Kd.C_max hr0_2) hw0_2 (Kd.C_max hr0_3) hw0_3 (Kd.C_max hr0_4) hw0_4 hw0_5 w1 w2 w3 w4 w5
  refine (AI.root6_ok k _ _ l0_0 _ _ l0_1 _ _ l0_2 _ _ l0_3 _ _ l0_4 a0_5 a1 a2 a3 a4 a5 true W hr0_0 hl0_0 hr0_1 hl0_1 hr0_2 hl0_2 hr0_3 hl0_3 hr0_4 hl0_4 hpure).mono fun e W' hpost => ?_
  obtain ⟨he, hd⟩ := hpost
  have bel : Below W.heap.size W W' := hd
  subst he
  exact ⟨_, rfl, _, _, _, [], _, [], hW', trodAll_mk1 (shut_bool Tryz.underlying4 _), (trodAll_cons_mk (Below.trod laidOut (by kernel_rfl) (of_decide_eq_true (by kernel_rfl)) k0 bel lt0) (trodAll_cons_mk (shut_int Tryz.underlying3 w1) (trodAll_cons_mk (shut_int Tryz.underlying3 w2) (trodAll_cons_mk (shut_int Tryz.underlying3 w3) (trodAll_cons_mk (shut_int Tryz.underlying3 w4) (trodAll_cons_mk (shut_int Tryz.underlying3 w5) trodAll_mk0)))))), rfl, bel.frame _, fun h => by cases h⟩
theorem over : Rows.fnExactBookIssueRow.holds Tryz.pinned (OpenSpec.ofChange Rows.fnExactBookIssueSpec) :=
  OpenClaim.holds_of_wide 6 Tryz.f6 rfl rfl rfl rfl rfl rfl rfl ⟨rfl, rfl, rfl, rfl, rfl⟩ rfl rfl rfl rfl rfl (by kernel_rfl) Tryz.func6 (by kernel_rfl)
    (of_decide_eq_true (by kernel_rfl)) (by unfold Func.isWrapper; first | (rw [if_pos (by decide +kernel)]; kernel_rfl) | (rw [if_neg (by decide +kernel)]; exact ⟨rfl, rfl⟩))
    (fun os started H enc _ => lifted os started H enc)
theorem proved : Rows.FnExactBookIssueSaid := over
#print axioms proved
end Go.Proofs.YtmfgajbkcnlkcaaGreat.fnExactBookIssue
namespace Go.Proofs.YtmfgajbkcnlkcaaGreat
theorem fnExactBookIssue_holds : Rows.FnExactBookIssueSaid := fnExactBookIssue.proved
end Go.Proofs.YtmfgajbkcnlkcaaGreat
