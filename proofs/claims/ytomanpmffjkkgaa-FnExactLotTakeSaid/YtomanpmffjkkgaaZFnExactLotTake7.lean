/- LotTake of the program and of the reference agree at every list, pair, quantity and way, and the answer is a list of its own. -/
import Derived.Test.YtomanpmffjkkgaaZFnExactLotTake6
import Derived.Deep.Slices
import Derived.Deep.Fields
import Derived.ChangeSame
import Derived.ChangeShapes
import Derived.WideShapes
import Derived.SizedLaws
import Derived.Test.YtomanpmffjkkgaaRows
import Derived.WalkKit
import Derived.ProofKit
import Derived.OpenShut
import Derived.ShutString
import Derived.ChangeOld
import Derived.Below
import Derived.Carry
namespace Go.Proofs.Ytomanpmffjkkgaa.P
end Go.Proofs.Ytomanpmffjkkgaa.P
namespace Go.Proofs.Ytomanpmffjkkgaa.EV
end Go.Proofs.Ytomanpmffjkkgaa.EV
namespace Go.Proofs.Ytomanpmffjkkgaa.I1
end Go.Proofs.Ytomanpmffjkkgaa.I1
namespace Go.Proofs.Ytomanpmffjkkgaa.N1
end Go.Proofs.Ytomanpmffjkkgaa.N1
namespace Go.Proofs.Ytomanpmffjkkgaa.E1
end Go.Proofs.Ytomanpmffjkkgaa.E1
namespace Go.Proofs.Ytomanpmffjkkgaa.E2
end Go.Proofs.Ytomanpmffjkkgaa.E2
namespace Go.Proofs.Ytomanpmffjkkgaa.E3
end Go.Proofs.Ytomanpmffjkkgaa.E3
namespace Go.Proofs.Ytomanpmffjkkgaa.E4
end Go.Proofs.Ytomanpmffjkkgaa.E4
namespace Go.Proofs.Ytomanpmffjkkgaa.E5
end Go.Proofs.Ytomanpmffjkkgaa.E5
namespace Go.Proofs.Ytomanpmffjkkgaa.E6
end Go.Proofs.Ytomanpmffjkkgaa.E6
namespace Go.Proofs.Ytomanpmffjkkgaa.E7
end Go.Proofs.Ytomanpmffjkkgaa.E7
namespace Go.Proofs.Ytomanpmffjkkgaa.T1
end Go.Proofs.Ytomanpmffjkkgaa.T1
namespace Go.Proofs.Ytomanpmffjkkgaa.M1
end Go.Proofs.Ytomanpmffjkkgaa.M1
namespace Go.Proofs.Ytomanpmffjkkgaa.E6
open Go Go.RowKit Go.Proofs.Ytomanpmffjkkgaa.P Go.Proofs.YtomanpmffjkkgaaW.PrintWords Go.Proofs.YtomanpmffjkkgaaW.PrintLast Go.Proofs.Ytomanpmffjkkgaa.EV Go.Proofs.Ytomanpmffjkkgaa.I1 Go.Proofs.Ytomanpmffjkkgaa.N1 Go.Proofs.Ytomanpmffjkkgaa.E1 Go.Proofs.Ytomanpmffjkkgaa.E2 Go.Proofs.Ytomanpmffjkkgaa.E3 Go.Proofs.Ytomanpmffjkkgaa.E4 Go.Proofs.Ytomanpmffjkkgaa.E5
def paid (x : SL) (p : Int) : Int := (A2.mdR x.f4 p x.f3).1
theorem paid_ok {x : SL} (h : E1.Form x) {p : Int} (h0 : 0 ≤ p) (h1 : p ≤ x.f3) : paid x p = x.f4 * p / x.f3 ∧ 0 ≤ paid x p ∧ paid x p ≤ x.f4 := by
  unfold E1.Form at h
  have e1 : 0 ≤ x.f4 * p / x.f3 := Int.ediv_nonneg (Int.mul_nonneg (by omega) h0) (by omega)
  have e2 : x.f4 * p / x.f3 ≤ x.f4 := Int.ediv_le_of_le_mul (by omega) (Int.mul_le_mul_of_nonneg_left h1 (by omega))
  have e : paid x p = x.f4 * p / x.f3 := by
    unfold paid
    rw [A2.md_yes ⟨⟨by omega, by omega⟩, ⟨by omega, by omega⟩, ⟨by omega, by omega⟩, by omega⟩]
  rw [e]
  exact ⟨rfl, e1, e2⟩
theorem paid_all {x : SL} (h : E1.Form x) : paid x x.f3 = x.f4 := by
  have h2 := h
  unfold E1.Form at h2
  rw [(paid_ok h (by omega) (Int.le_refl _)).1]
  exact Int.mul_ediv_cancel _ (by omega)
theorem paid_none {x : SL} (h : E1.Form x) : paid x 0 = 0 := by
  have h2 := h
  unfold E1.Form at h2
  rw [(paid_ok h (Int.le_refl _) (by omega)).1]
  simp
def cut (x : SL) (p : Int) : SL := ⟨x.f0, x.f1, x.f2, x.f3 - p, x.f4 - paid x p⟩
theorem cut_none {x : SL} (h : E1.Form x) : cut x 0 = x := by
  unfold cut
  rw [paid_none h, Int.sub_zero, Int.sub_zero]
def left : List SL → Int → List SL
  | [], _ => []
  | x :: xs, q => if x.f3 ≤ q then left xs (q - x.f3) else cut x q :: xs
def cost : List SL → Int → Int
  | [], _ => 0
  | x :: xs, q => if x.f3 ≤ q then x.f4 + cost xs (q - x.f3) else paid x q
def tot : List SL → Int
  | [] => 0
  | x :: xs => x.f3 + tot xs
def all4 : List SL → Int
  | [] => 0
  | x :: xs => x.f4 + all4 xs
theorem left_none : ∀ {l : List SL}, (∀ x ∈ l, E1.Form x) → left l 0 = l ∧ cost l 0 = 0
  | [], _ => ⟨rfl, rfl⟩
  | x :: xs, h => by
    have hx := h x (List.mem_cons_self ..)
    have h2 := hx
    unfold E1.Form at h2
    simp only [left, cost]
    rw [if_neg (by omega), if_neg (by omega), cut_none hx, paid_none hx]
    exact ⟨rfl, rfl⟩
theorem left_len : ∀ (l : List SL) (q : Int), (left l q).length ≤ l.length
  | [], _ => Nat.le_refl _
  | x :: xs, q => by
    have ih := left_len xs (q - x.f3)
    simp only [left]
    split
    · simp only [List.length_cons]
      omega
    · exact Nat.le_refl _
theorem left_own {a b : Int} : ∀ {l : List SL} {q : Int}, (∀ x ∈ l, x.f0 = a ∧ x.f1 = b) → ∀ x ∈ left l q, x.f0 = a ∧ x.f1 = b
  | [], q, _, x, hx => by cases hx
  | y :: ys, q, h, x, hx => by
    simp only [left] at hx
    split at hx
    · exact left_own (fun z hz => h z (List.mem_cons_of_mem _ hz)) x hx
    · rcases List.mem_cons.1 hx with rfl | hx
      · exact h y (List.mem_cons_self ..)
      · exact h x (List.mem_cons_of_mem _ hx)
theorem left_pw {R : SL → SL → Prop} (hR : ∀ x p z, R x z → R (cut x p) z) : ∀ {l : List SL} {q : Int}, l.Pairwise R → (left l q).Pairwise R
  | [], _, _ => List.Pairwise.nil
  | x :: xs, q, h => by
    have h2 := List.pairwise_cons.1 h
    simp only [left]
    split
    · exact left_pw hR h2.2
    · exact List.pairwise_cons.2 ⟨fun z hz => hR _ _ _ (h2.1 z hz), h2.2⟩
theorem take_i (l : List SL) (hl : l.length ≤ 120) (hf : ∀ x ∈ l, E1.Form x) (q : Int) (q0 : 0 ≤ q) (q1 : q ≤ 1000000000000000) : Ev (fun k => impl_takeLots.f k l q) (left l q, cost l q) := by
  unfold impl_takeLots.f
  have key : ∀ (n i : Nat) (q c : Int) (out : List SL), l.length - i = n → i ≤ l.length → 0 ≤ q → q ≤ 1000000000000000 → 0 ≤ c → c ≤ i * 1000000000000000 → out.length ≤ i →
      Ev (fun k => impl_takeLots.l0 k q c out l (l.length : Int) (i : Int)) (out ++ left (l.drop i) q, c + cost (l.drop i) q) := by
    intro n
    induction n with
    | zero =>
      intro i q c out hn hi _ _ _ _ _
      have e : l.drop i = [] := List.drop_eq_nil_of_le (by omega)
      rw [e]
      simp only [left, cost, List.append_nil, Int.add_zero]
      exact Ev_one fun k => by
        simp only [impl_takeLots.l0]
        rw [if_neg (by omega)]
    | succ n ih =>
      intro i q c out hn hi q0 q1 c0 c1 ho
      have h1 : i < l.length := by omega
      obtain ⟨x, hx⟩ : ∃ x, l.getD i z37 = x := ⟨_, rfl⟩
      have e : l.drop i = x :: l.drop (i + 1) := by rw [← hx]; exact drop_getD z37 l i h1
      have hm : x ∈ l := List.mem_of_mem_drop (i := i) (by rw [e]; exact List.mem_cons_self ..)
      have hfx := hf x hm
      have hF := hfx
      unfold E1.Form at hF
      have hfd : ∀ y ∈ l.drop (i + 1), E1.Form y := fun y hy => hf y (List.mem_of_mem_drop hy)
      rw [e]
      simp only [left, cost]
      by_cases hq : x.f3 ≤ q
      · rw [if_pos hq, if_pos hq]
        have hmn : mn q x.f3 = x.f3 := by unfold mn; split <;> omega
        have h2 := ih (i + 1) (q - x.f3) (c + x.f4) out (by omega) (by omega) (by omega) (by omega) (by omega) (by omega) (by omega)
        rw [show c + (x.f4 + cost (l.drop (i + 1)) (q - x.f3)) = c + x.f4 + cost (l.drop (i + 1)) (q - x.f3) by omega]
        refine Ev.step (f := fun k => (impl_MulDiv.f k x.f4 x.f3 x.f3).bind fun t => impl_takeLots.l0 k (wrap64 (q - x.f3)) (wrap64 (c + t.1)) out l (l.length : Int) ((i + 1 : Nat) : Int)) (fun k => ?_) (Ev_bind (A2.mulDiv_i x.f4 x.f3 x.f3) ?_)
        · show impl_takeLots.l0 (k + 1) q c out l (l.length : Int) (i : Int) = _
          simp only [impl_takeLots.l0]
          rw [if_pos (by omega), if_pos (by omega), if_pos (by omega), w_succ h1 (by omega)]
          simp only [rdL, hx, hmn]
          simp only [Int.lt_irrefl, if_false]
        · have hp : (A2.mdR x.f4 x.f3 x.f3).1 = x.f4 := paid_all hfx
          refine Ev.congr (fun k => ?_) h2
          show impl_takeLots.l0 k (wrap64 (q - x.f3)) (wrap64 (c + (A2.mdR x.f4 x.f3 x.f3).1)) out l (l.length : Int) ((i + 1 : Nat) : Int) = _
          rw [hp, w64_in (q - x.f3) (by omega) (by omega), w64_in (c + x.f4) (by omega) (by omega)]
      · rw [if_neg hq, if_neg hq]
        have hmn : mn q x.f3 = q := by unfold mn; split <;> omega
        have hp := paid_ok hfx q0 (by omega)
        have h2 := ih (i + 1) 0 (c + paid x q) (out ++ [cut x q]) (by omega) (by omega) (by omega) (by omega) (by omega) (by omega) (by rw [List.length_append, List.length_singleton]; omega)
        rw [(left_none hfd).1, (left_none hfd).2, Int.add_zero, List.append_assoc] at h2
        refine Ev.step (f := fun k => (impl_MulDiv.f k x.f4 q x.f3).bind fun t => impl_takeLots.l0 k (wrap64 (q - q)) (wrap64 (c + t.1)) (out ++ [⟨x.f0, x.f1, x.f2, wrap64 (x.f3 - q), wrap64 (x.f4 - t.1)⟩]) l (l.length : Int) ((i + 1 : Nat) : Int)) (fun k => ?_) (Ev_bind (A2.mulDiv_i x.f4 q x.f3) ?_)
        · show impl_takeLots.l0 (k + 1) q c out l (l.length : Int) (i : Int) = _
          simp only [impl_takeLots.l0]
          rw [if_pos (by omega), if_pos (by omega), if_pos (by omega), w_succ h1 (by omega)]
          simp only [rdL, hx, hmn]
          simp only [show q < x.f3 from by omega, show out.length < 3518437208883 from by omega, if_true]
        · refine Ev.congr (fun k => ?_) h2
          show impl_takeLots.l0 k (wrap64 (q - q)) (wrap64 (c + paid x q)) (out ++ [(⟨x.f0, x.f1, x.f2, wrap64 (x.f3 - q), wrap64 (x.f4 - paid x q)⟩ : SL)]) l (l.length : Int) ((i + 1 : Nat) : Int) = _
          rw [w64_in (q - q) (by omega) (by omega), w64_in (c + paid x q) (by omega) (by omega), w64_in (x.f3 - q) (by omega) (by omega), w64_in (x.f4 - paid x q) (by omega) (by omega), Int.sub_self]
          rfl
  have h := key _ 0 q 0 [] rfl (Nat.zero_le _) q0 q1 (Int.le_refl _) (by omega) (Nat.le_refl _)
  rw [List.drop_zero, List.nil_append, Int.zero_add] at h
  exact h
theorem rd_mid (A B : List SL) (x : SL) : rd_T37 (A ++ x :: B) (A.length : Int) = x := by
  rw [rdL]
  simp
theorem round_s (A B rest : List SL) (x : SL) (way q c : Int) (hl : A.length + B.length ≤ 200) (hx : E1.Form x) (q0 : 0 < q) (q1 : q ≤ 1000000000000000) (c0 : 0 ≤ c) (c1 : c ≤ 1000000000000000000) (R : List SL × Int × Int)
    (h : Ev (fun k => spec_LotTake.l0 k (if x.f3 ≤ q then q - x.f3 else 0) way (if x.f3 ≤ q then A ++ B else A ++ cut x q :: B) rest (if x.f3 ≤ q then c + x.f4 else c + paid x q)) R) :
    Ev (fun k => spec_LotTake.j2 k q way (A ++ x :: B) rest c (A.length : Int)) R := by
  have hF := hx
  unfold E1.Form at hF
  have hlen : (A ++ x :: B).length = A.length + B.length + 1 := by simp; omega
  have e1 : wrap64 ((A.length : Int) + 1) = ((A.length + 1 : Nat) : Int) := w_succ (n := A.length + 1) (Nat.lt_succ_self _) (by omega)
  have g1 : (0 : Int) ≤ ((A.length + 1 : Nat) : Int) := Int.natCast_nonneg _
  have g2 : ((A.length + 1 : Nat) : Int) ≤ ((A ++ x :: B).length : Int) := by
    rw [hlen]
    exact Int.ofNat_le.2 (Nat.add_le_add_right (Nat.le_add_right _ _) 1)
  obtain ⟨p, hp⟩ : ∃ p, p = (if x.f3 ≤ q then x.f3 else q) := ⟨_, rfl⟩
  have p0 : 0 < p := by rw [hp]; split <;> omega
  have p1 : p ≤ x.f3 := by rw [hp]; split <;> omega
  have p2 : p ≤ q := by rw [hp]; split <;> omega
  have hmin : spec_l1Min.f x.f3 q = some p := by
    unfold spec_l1Min.f
    rw [hp]
    by_cases h1 : x.f3 < q
    · rw [if_pos h1, if_pos (by omega)]
    · by_cases h2 : x.f3 = q
      · rw [if_neg h1, if_pos (by omega), h2]
      · rw [if_neg h1, if_neg (by omega)]
  have hpd := paid_ok hx (Int.le_of_lt p0) p1
  have s1 : (A ++ x :: B).set A.length (⟨x.f0, x.f1, x.f2, x.f3 - p, x.f4⟩ : SL) = A ++ (⟨x.f0, x.f1, x.f2, x.f3 - p, x.f4⟩ : SL) :: B := by simp
  have s2 : (A ++ (⟨x.f0, x.f1, x.f2, x.f3 - p, x.f4⟩ : SL) :: B).set A.length (cut x p) = A ++ cut x p :: B := by simp
  have tn : ((A.length : Nat) : Int).toNat = A.length := Int.toNat_natCast _
  have tn1 : ((A.length + 1 : Nat) : Int).toNat = A.length + 1 := Int.toNat_natCast _
  have a1 : (0 : Int) ≤ (A.length : Int) := Int.natCast_nonneg _
  have a2 : (A.length : Int) < ((A ++ x :: B).length : Int) := by rw [hlen]; omega
  have a3 : (A.length : Int) ≤ ((A ++ x :: B).length : Int) := Int.le_of_lt a2
  have b1 : wrap64 (x.f3 - p) = x.f3 - p := w64_in (x.f3 - p) (by omega) (by omega)
  have b2 : wrap64 (x.f4 - paid x p) = x.f4 - paid x p := w64_in (x.f4 - paid x p) (by omega) (by omega)
  have b3 : wrap64 (q - p) = q - p := w64_in (q - p) (by omega) (by omega)
  have b4 : wrap64 (c + paid x p) = c + paid x p := w64_in (c + paid x p) (by omega) (by omega)
  have d1 : ([] : List SL).length + ((A ++ cut x p :: B).take A.length).length < 3518437208883 := by simp; omega
  have d2 : ([] ++ (A ++ cut x p :: B).take A.length).length + ((A ++ cut x p :: B).drop (A.length + 1)).length < 3518437208883 := by simp; omega
  have d3 : ([] ++ (A ++ cut x p :: B).take A.length) ++ (A ++ cut x p :: B).drop (A.length + 1) = A ++ B := by simp
  have step : ∀ k, spec_LotTake.j2 (k + 1) q way (A ++ x :: B) rest c (A.length : Int) = (spec_MulDiv.f k x.f4 p x.f3).bind fun t => if t.1 = paid x p then (if x.f3 - p = 0 then spec_LotTake.l0 k (q - p) way (A ++ B) rest (c + paid x p) else spec_LotTake.l0 k (q - p) way (A ++ cut x p :: B) rest (c + paid x p)) else spec_LotTake.j2 (k + 1) q way (A ++ x :: B) rest c (A.length : Int) := by
    clear hl hF hlen q0 q1 c0 c1 p0 p1 p2 hpd hp
    intro k
    cases hmd : spec_MulDiv.f k x.f4 p x.f3 with
    | none =>
      simp only [spec_LotTake.j2]
      rw [if_pos a1, if_pos a2, rd_mid, hmin, Option.bind_some, hmd]
      rfl
    | some t =>
      rw [Option.bind_some]
      by_cases ht : t.1 = paid x p
      · rw [if_pos ht]
        simp only [spec_LotTake.j2]
        rw [if_pos a1, if_pos a2, rd_mid, hmin, Option.bind_some, hmd, Option.bind_some, ht]
        rw [Option.bind_some, Option.bind_some, tn, b1, b2, b3, b4, s1, rd_mid]
        rw [show (⟨x.f0, x.f1, x.f2, x.f3 - p, x.f4 - paid x p⟩ : SL) = cut x p from rfl, s2, rd_mid]
        show (if x.f3 - p = 0 then _ else _) = _
        by_cases hz : x.f3 - p = 0
        · rw [if_pos hz, if_pos hz, Option.bind_some, if_pos a3, Option.bind_some, if_pos d1, Option.bind_some]
          rw [e1, if_pos g1, if_pos g2, tn1, Option.bind_some, if_pos d2, d3]
        · rw [if_neg hz, if_neg hz]
      · rw [if_neg ht]
  refine Ev.step (f := fun k => (spec_MulDiv.f k x.f4 p x.f3).bind fun t => if t.1 = paid x p then (if x.f3 - p = 0 then spec_LotTake.l0 k (q - p) way (A ++ B) rest (c + paid x p) else spec_LotTake.l0 k (q - p) way (A ++ cut x p :: B) rest (c + paid x p)) else spec_LotTake.j2 (k + 1) q way (A ++ x :: B) rest c (A.length : Int)) step (Ev_bind (A2.mulDiv_s x.f4 p x.f3) (Ev.congr (fun k => if_pos rfl) ?_))
  by_cases h1 : x.f3 ≤ q
  · have ep : p = x.f3 := by rw [hp, if_pos h1]
    rw [if_pos h1, if_pos h1, if_pos h1] at h
    rw [ep, paid_all hx]
    exact Ev.congr (fun k => if_pos (by omega)) h
  · have ep : p = q := by rw [hp, if_neg h1]
    rw [if_neg h1, if_neg h1, if_neg h1] at h
    rw [ep, Int.sub_self]
    exact Ev.congr (fun k => if_neg (by omega)) h
theorem end_s (own rest : List SL) (way c : Int) (hl : own.length + rest.length ≤ 3000000) : Ev (fun k => spec_LotTake.l0 k 0 way own rest c) (mergeL rest own, c, 0) := by
  refine Ev.step (f := fun k => (spec_l5Merge.f k rest own).bind fun t => some (t, c, 0)) (fun k => ?_) (Ev_bind (merge_s rest own (by omega)) (Ev_all_k fun k => rfl))
  show spec_LotTake.l0 (k + 1) 0 way own rest c = _
  simp only [spec_LotTake.l0]
  rw [if_neg (by omega)]
theorem first_s (rest : List SL) (hr : rest.length ≤ 1000000) (way : Int) (hw : way ≠ 2) : ∀ (l : List SL) (q c : Int), l.length ≤ 120 → (∀ x ∈ l, E1.Form x) → 0 ≤ q → q ≤ tot l → q ≤ 1000000000000000 → 0 ≤ c → c + l.length * 1000000000000000 ≤ 1000000000000000000 →
    Ev (fun k => spec_LotTake.l0 k q way l rest c) (mergeL rest (left l q), c + cost l q, 0)
  | [], q, c, _, _, q0, q1, _, _, _ => by
    have e : q = 0 := by simp only [tot] at q1; omega
    rw [e]
    simp only [left, cost, Int.add_zero]
    exact end_s [] rest way c (by simp; omega)
  | x :: xs, q, c, hl, hf, q0, q1, q2, c0, c1 => by
    have hx := hf x (List.mem_cons_self ..)
    have hxs : ∀ y ∈ xs, E1.Form y := fun y hy => hf y (List.mem_cons_of_mem _ hy)
    have hF := hx
    unfold E1.Form at hF
    simp only [List.length_cons] at hl c1
    simp only [tot] at q1
    by_cases hz : q = 0
    · rw [hz, (left_none hf).1, (left_none hf).2, Int.add_zero]
      exact end_s (x :: xs) rest way c (by simp; omega)
    · refine Ev.step (f := fun k => spec_LotTake.j2 k q way (x :: xs) rest c 0) (fun k => ?_) (round_s [] xs rest x way q c (by simp; omega) hx (by omega) q2 c0 (by omega) _ ?_)
      · show spec_LotTake.l0 (k + 1) q way (x :: xs) rest c = _
        simp only [spec_LotTake.l0]
        rw [if_pos (by omega), if_neg hw]
      · simp only [left, cost]
        by_cases h1 : x.f3 ≤ q
        · have ih := first_s rest hr way hw xs (q - x.f3) (c + x.f4) (by omega) hxs (by omega) (by omega) (by omega) (by omega) (by omega)
          rw [if_pos h1, if_pos h1, if_pos h1, if_pos h1, if_pos h1, List.nil_append, show c + (x.f4 + cost xs (q - x.f3)) = c + x.f4 + cost xs (q - x.f3) by omega]
          exact ih
        · rw [if_neg h1, if_neg h1, if_neg h1, if_neg h1, if_neg h1, List.nil_append]
          exact end_s (cut x q :: xs) rest way (c + paid x q) (by simp; omega)
theorem last_s (rest : List SL) (hr : rest.length ≤ 1000000) : ∀ (l : List SL) (q c : Int), l.length ≤ 120 → (∀ x ∈ l, E1.Form x) → 0 ≤ q → q ≤ tot l → q ≤ 1000000000000000 → 0 ≤ c → c + l.length * 1000000000000000 ≤ 1000000000000000000 →
    Ev (fun k => spec_LotTake.l0 k q 2 l.reverse rest c) (mergeL rest (left l q).reverse, c + cost l q, 0)
  | [], q, c, _, _, q0, q1, _, _, _ => by
    have e : q = 0 := by simp only [tot] at q1; omega
    rw [e]
    simp only [left, cost, Int.add_zero]
    exact end_s [] rest 2 c (by simp; omega)
  | x :: xs, q, c, hl, hf, q0, q1, q2, c0, c1 => by
    have hx := hf x (List.mem_cons_self ..)
    have hxs : ∀ y ∈ xs, E1.Form y := fun y hy => hf y (List.mem_cons_of_mem _ hy)
    have hF := hx
    unfold E1.Form at hF
    simp only [List.length_cons] at hl c1
    simp only [tot] at q1
    by_cases hz : q = 0
    · rw [hz, (left_none hf).1, (left_none hf).2, Int.add_zero]
      exact end_s (x :: xs).reverse rest 2 c (by simp; omega)
    · rw [List.reverse_cons]
      have hj := round_s xs.reverse [] rest x 2 q c (by simp; omega) hx (by omega) q2 c0 (by omega) (mergeL rest (left (x :: xs) q).reverse, c + cost (x :: xs) q, 0) (by
        simp only [left, cost]
        by_cases h1 : x.f3 ≤ q
        · have ih := last_s rest hr xs (q - x.f3) (c + x.f4) (by omega) hxs (by omega) (by omega) (by omega) (by omega) (by omega)
          rw [if_pos h1, if_pos h1, if_pos h1, if_pos h1, if_pos h1, List.append_nil, show c + (x.f4 + cost xs (q - x.f3)) = c + x.f4 + cost xs (q - x.f3) by omega]
          exact ih
        · rw [if_neg h1, if_neg h1, if_neg h1, if_neg h1, if_neg h1, List.reverse_cons]
          exact end_s (xs.reverse ++ [cut x q]) rest 2 (c + paid x q) (by simp; omega))
      refine Ev.step (f := fun k => spec_LotTake.j2 k q 2 (xs.reverse ++ x :: []) rest c (xs.reverse.length : Int)) (fun k => ?_) hj
      show spec_LotTake.l0 (k + 1) q 2 (xs.reverse ++ [x]) rest c = _
      simp only [spec_LotTake.l0]
      rw [if_pos (by omega), if_pos trivial]
      congr 1
      rw [List.length_append, List.length_singleton]
      unfold wrap64
      simp
      omega
end Go.Proofs.Ytomanpmffjkkgaa.E6
namespace Go.Proofs.Ytomanpmffjkkgaa.E7
open Go Go.RowKit Go.Proofs.Ytomanpmffjkkgaa.P Go.Proofs.YtomanpmffjkkgaaW.PrintWords Go.Proofs.YtomanpmffjkkgaaW.PrintLast Go.Proofs.Ytomanpmffjkkgaa.EV Go.Proofs.Ytomanpmffjkkgaa.I1 Go.Proofs.Ytomanpmffjkkgaa.N1 Go.Proofs.Ytomanpmffjkkgaa.E1 Go.Proofs.Ytomanpmffjkkgaa.E2 Go.Proofs.Ytomanpmffjkkgaa.E3 Go.Proofs.Ytomanpmffjkkgaa.E4 Go.Proofs.Ytomanpmffjkkgaa.E5 Go.Proofs.Ytomanpmffjkkgaa.E6
theorem rev_i (l : List SL) (hl : l.length ≤ 1048576) : impl_Lot_67.f l = some l.reverse := by
  unfold impl_Lot_67.f
  rw [if_pos (by omega)]
theorem sums_t : ∀ (m : List SL) (q c : Int), (∀ x ∈ m, E1.Form x) → 0 ≤ q → 0 ≤ c → q + m.length * 1000000000000000 ≤ 9000000000000000000 → c + m.length * 1000000000000000 ≤ 9000000000000000000 →
    impl_LotsOk.sum3 m q = q + tot m ∧ impl_LotsOk.sum4 m c = c + all4 m
  | [], q, c, _, _, _, _, _ => by simp [impl_LotsOk.sum3, impl_LotsOk.sum4, tot, all4]
  | x :: xs, q, c, hf, h0, h1, h2, h3 => by
    have hx := hf x (List.mem_cons_self ..)
    unfold E1.Form at hx
    simp only [List.length_cons] at h2 h3
    have ih := sums_t xs (q + x.f3) (c + x.f4) (fun y hy => hf y (List.mem_cons_of_mem _ hy)) (by omega) (by omega) (by omega) (by omega)
    simp only [impl_LotsOk.sum3, impl_LotsOk.sum4, List.foldl_cons, tot, all4] at ih ⊢
    rw [w64_in (q + x.f3) (by omega) (by omega), w64_in (c + x.f4) (by omega) (by omega), ih.1, ih.2]
    omega
theorem tot_of (a b : Int) : ∀ l : List SL, tot (ofL a b l) = qty a b l ∧ all4 (ofL a b l) = cst a b l
  | [] => ⟨rfl, rfl⟩
  | x :: xs => by
    have ih := tot_of a b xs
    unfold ofL at *
    by_cases h : x.f0 = a ∧ x.f1 = b
    · rw [List.filter_cons_of_pos (by unfold Own; exact decide_eq_true h)]
      simp only [tot, all4, qty, cst]
      rw [if_pos h, if_pos h, ih.1, ih.2]
      exact ⟨rfl, rfl⟩
    · rw [List.filter_cons_of_neg (by unfold Own; rw [decide_eq_false h]; decide)]
      simp only [qty, cst]
      rw [if_neg h, if_neg h, ih.1, ih.2]
      omega
theorem tot_app : ∀ (l m : List SL), tot (l ++ m) = tot l + tot m ∧ all4 (l ++ m) = all4 l + all4 m
  | [], m => by simp [tot, all4]
  | x :: xs, m => by
    have ih := tot_app xs m
    simp only [List.cons_append, tot, all4]
    omega
theorem tot_rev : ∀ l : List SL, tot l.reverse = tot l ∧ all4 l.reverse = all4 l
  | [] => ⟨rfl, rfl⟩
  | x :: xs => by
    have ih := tot_rev xs
    have h := tot_app xs.reverse [x]
    rw [List.reverse_cons, h.1, h.2, ih.1, ih.2]
    simp only [tot, all4]
    omega
def whole (own : List SL) : SL := ⟨(own.getD 0 z37).f0, (own.getD 0 z37).f1, (own.getD 0 z37).f2, tot own, all4 own⟩
def src (w : Int) (own : List SL) : List SL := if w = 1 then own else if w = 2 then own.reverse else [whole own]
def tk (w : Int) (m : List SL) : List SL := if w = 2 then m.reverse else m
def takeR (l : List SL) (a b q w : Int) : List SL × Int × Int :=
  if impl_LotsOk.ok l = true ∧ (1 ≤ q ∧ q ≤ 1000000000000000) ∧ (1 ≤ w ∧ w ≤ 3) then (if tot (ofL a b l) < q then (l, 0, 2) else (mergeL (outL a b l) (tk w (left (src w (ofL a b l)) q)), cost (src w (ofL a b l)) q, 0)) else ([], 0, 1)
structure Own' (a b : Int) (own : List SL) : Prop where
  len : own.length ≤ 120
  form : ∀ x ∈ own, E1.Form x
  key : ∀ x ∈ own, x.f0 = a ∧ x.f1 = b
  pw : own.Pairwise Lt
  tot1 : tot own ≤ 1000000000000000
  all1 : all4 own ≤ 1000000000000000
theorem own_of {l : List SL} (h : E1.Right l) (a b : Int) : Own' a b (ofL a b l) where
  len := by have := of_len a b l; have := h.1; omega
  form x hx := h.2.1 x (List.mem_filter.1 hx).1
  key x hx := of_decide_eq_true (List.mem_filter.1 hx).2
  pw := (right_pw h.2.2.1).filter _
  tot1 := by rw [(tot_of a b l).1]; exact (h.2.2.2 a b).1.2
  all1 := by rw [(tot_of a b l).2]; exact (h.2.2.2 a b).2.2
theorem all4_pos : ∀ {m : List SL}, (∀ y ∈ m, E1.Form y) → 0 ≤ all4 m ∧ 0 ≤ tot m
  | [], _ => ⟨Int.le_refl _, Int.le_refl _⟩
  | z :: zs, hm => by
    have h4 := hm z (List.mem_cons_self ..)
    have h5 := all4_pos (m := zs) fun y hy => hm y (List.mem_cons_of_mem _ hy)
    unfold E1.Form at h4
    simp only [all4, tot]
    omega
theorem whole_form {a b : Int} {own : List SL} (h : Own' a b own) (h0 : 0 < tot own) : E1.Form (whole own) ∧ (whole own).f0 = a ∧ (whole own).f1 = b := by
  have hp := all4_pos h.form
  cases own with
  | nil => simp only [tot] at h0; omega
  | cons x xs =>
    have hx := h.form x (List.mem_cons_self ..)
    have hk := h.key x (List.mem_cons_self ..)
    have h1 := h.tot1
    have h2 := h.all1
    unfold E1.Form No at *
    have e : (x :: xs).getD 0 z37 = x := rfl
    unfold whole
    simp only [e]
    omega
theorem src_ok {a b : Int} {own : List SL} (h : Own' a b own) (h0 : 0 < tot own) (w : Int) :
    (src w own).length ≤ 120 ∧ (∀ x ∈ src w own, E1.Form x) ∧ (∀ x ∈ src w own, x.f0 = a ∧ x.f1 = b) ∧ tot (src w own) = tot own ∧ all4 (src w own) = all4 own := by
  unfold src
  split
  · exact ⟨h.len, h.form, h.key, rfl, rfl⟩
  · split
    · exact ⟨by rw [List.length_reverse]; exact h.len, fun x hx => h.form x (List.mem_reverse.1 hx), fun x hx => h.key x (List.mem_reverse.1 hx), (tot_rev own).1, (tot_rev own).2⟩
    · have hw := whole_form h h0
      refine ⟨by simp, fun x hx => ?_, fun x hx => ?_, by simp only [tot]; unfold whole; simp only []; omega, by simp only [all4]; unfold whole; simp only []; omega⟩
      · rw [List.mem_singleton.1 hx]
        exact hw.1
      · rw [List.mem_singleton.1 hx]
        exact hw.2
theorem tk_perm (w : Int) (m : List SL) : m.Perm (tk w m) := by
  unfold tk
  split
  · exact (List.reverse_perm m).symm
  · exact List.Perm.refl _
theorem tk_pw {a b : Int} {own : List SL} (h : Own' a b own) (w q : Int) : (tk w (left (src w own) q)).Pairwise Lt := by
  unfold tk src
  by_cases h1 : w = 1
  · rw [if_pos h1, if_neg (by omega)]
    exact left_pw (fun x p z hz => hz) h.pw
  · rw [if_neg h1]
    by_cases h2 : w = 2
    · rw [if_pos h2, if_pos h2]
      refine List.pairwise_reverse.2 (left_pw (R := fun x y => Lt y x) (fun x p z hz => hz) (List.pairwise_reverse.2 ?_))
      exact h.pw
    · rw [if_neg h2, if_neg h2]
      exact left_pw (fun x p z hz => hz) (List.pairwise_singleton _ _)
theorem tk_own {a b : Int} {own : List SL} (h : Own' a b own) (h0 : 0 < tot own) (w q : Int) : ∀ x ∈ tk w (left (src w own) q), x.f0 = a ∧ x.f1 = b := fun x hx =>
  left_own (src_ok h h0 w).2.2.1 x ((tk_perm w _).mem_iff.2 hx)
theorem mean_eq (own : List SL) (q : Int) (h : q ≤ tot own) : left [whole own] q = (if tot own = q then [] else [cut (whole own) q]) := by
  have e : (whole own).f3 = tot own := rfl
  simp only [left]
  by_cases h1 : tot own = q
  · rw [if_pos (by omega), if_pos h1]
  · rw [if_neg (by omega), if_neg h1]
theorem mean_cost {own : List SL} (hf : E1.Form (whole own)) (q : Int) (h : q ≤ tot own) : cost [whole own] q = (A2.mdR (all4 own) q (tot own)).1 := by
  have e : (whole own).f3 = tot own := rfl
  have e4 : (whole own).f4 = all4 own := rfl
  simp only [cost]
  by_cases h1 : tot own = q
  · have := paid_all hf
    unfold paid at this
    rw [e, e4] at this
    rw [if_pos (by omega), ← h1, this, e4]
    omega
  · rw [if_neg (by omega)]
    rfl
theorem own_ne {own : List SL} (h : 0 < tot own) : 0 < own.length := by
  cases own with
  | nil => simp only [tot] at h; omega
  | cons x xs => simp
theorem mean_i {a b : Int} {own : List SL} (h : Own' a b own) (q : Int) (h0 : 0 < q) (h1 : q ≤ tot own) : Ev (fun k => impl_meanLots.f k own q) (left [whole own] q, cost [whole own] q) := by
  have hw := whole_form h (by omega)
  have hs := sums_t own 0 0 h.form (by omega) (by omega) (by have := h.len; omega) (by have := h.len; omega)
  have hn := own_ne (own := own) (by omega)
  have hp := paid_ok hw.1 (p := q) (by omega) h1
  have hW := hw.1
  unfold E1.Form at hW
  have e3 : (whole own).f3 = tot own := rfl
  have e4 : (whole own).f4 = all4 own := rfl
  have ep : paid (whole own) q = (A2.mdR (all4 own) q (tot own)).1 := rfl
  rw [e3, e4] at hW
  rw [e4, ep] at hp
  unfold impl_meanLots.f
  refine Ev_bind (sums_i own (by have := h.len; omega)) ?_
  rw [hs.1, hs.2, Int.zero_add, Int.zero_add]
  refine Ev_bind (A2.mulDiv_i (all4 own) q (tot own)) (Ev_all_k fun k => ?_)
  rw [mean_eq own q h1, mean_cost hw.1 q h1]
  show (if tot own = q then _ else _) = _
  by_cases hq : tot own = q
  · rw [if_pos hq, if_pos hq]
  · rw [if_neg hq, if_neg hq, if_pos (by omega), w64_in (tot own - q) (by omega) (by omega), w64_in (all4 own - (A2.mdR (all4 own) q (tot own)).1) (by omega) (by omega)]
    have e0 : rd_T37 own 0 = own.getD 0 z37 := rdL own 0
    rw [e0]
    rfl
theorem mean_s {a b : Int} {own : List SL} (h : Own' a b own) (q : Int) (h0 : 0 < q) (h1 : q ≤ tot own) : Ev (fun k => spec_l5Mean.f k own q) (left [whole own] q, cost [whole own] q) := by
  have hw := whole_form h (by omega)
  have hs := sums_t own 0 0 h.form (by omega) (by omega) (by have := h.len; omega) (by have := h.len; omega)
  have hn := own_ne (own := own) (by omega)
  have hp := paid_ok hw.1 (p := q) (by omega) h1
  have hW := hw.1
  unfold E1.Form at hW
  have e3 : (whole own).f3 = tot own := rfl
  have e4 : (whole own).f4 = all4 own := rfl
  have ep : paid (whole own) q = (A2.mdR (all4 own) q (tot own)).1 := rfl
  rw [e3, e4] at hW
  rw [e4, ep] at hp
  unfold spec_l5Mean.f
  refine Ev_bind (qty_s own (by have := h.len; omega)) (Ev_bind (cost_s own (by have := h.len; omega)) ?_)
  rw [hs.1, hs.2, Int.zero_add, Int.zero_add]
  refine Ev_bind (A2.mulDiv_s (all4 own) q (tot own)) (Ev_all_k fun k => ?_)
  rw [mean_eq own q h1, mean_cost hw.1 q h1]
  show (if tot own = q then _ else _) = _
  by_cases hq : tot own = q
  · rw [if_pos hq, if_pos hq]
  · rw [if_neg hq, if_neg hq, if_pos (by omega), w64_in (tot own - q) (by omega) (by omega), w64_in (all4 own - (A2.mdR (all4 own) q (tot own)).1) (by omega) (by omega)]
    have e0 : rd_T37 own 0 = own.getD 0 z37 := rdL own 0
    rw [e0]
    rfl
theorem take_s (l : List SL) (a b q w : Int) (hl : l.length ≤ 1048576) : Ev (fun k => spec_LotTake.f k l a b q w) (takeR l a b q w) := by
  unfold spec_LotTake.f takeR
  have bad : Ev (fun k => spec_LotTake.j0 k l a b q w true) (([] : List SL), (0 : Int), (1 : Int)) := Ev_one fun k => by
    simp only [spec_LotTake.j0]
    rw [if_pos trivial]
  refine Ev_bind (lotsOk_s l) ?_
  by_cases h : impl_LotsOk.ok l = true
  · refine Ev.congr (fun k => by rw [if_pos h, E1.some_s, Option.bind_some]) ?_
    by_cases hq : 1 ≤ q ∧ q ≤ 1000000000000000
    · refine Ev.congr (fun k => by rw [if_pos (decide_eq_true hq), in_s, Option.bind_some]) ?_
      by_cases hw : 1 ≤ w ∧ w ≤ 3
      · rw [if_pos ⟨h, hq, hw⟩]
        have hR := (ok_iff l).1 h
        have hO := own_of hR a b
        obtain ⟨own, ho⟩ : ∃ own, own = ofL a b l := ⟨_, rfl⟩
        rw [← ho] at hO ⊢
        have hs := sums_t own 0 0 hO.form (by omega) (by omega) (by have := hO.len; omega) (by have := hO.len; omega)
        have hol := out_len a b l
        have hlen := hO.len
        have h120 := hR.1
        have hz0 : ([] : List SL).length + l.length < 3518437208883 := by simp; omega
        refine Ev.step (f := fun k => (spec_l5Split.f k l a b).bind fun t => (spec_l5Qty.f k t.1).bind fun n => if n < q then some (([] : List SL) ++ l, 0, 2) else if w = 3 then (spec_l5Mean.f k t.1 q).bind fun u => (spec_l5Merge.f k t.2 u.1).bind fun m => some (m, u.2, 0) else spec_LotTake.l0 k q w t.1 t.2 0) (fun k => ?_) ?_
        · rw [decide_eq_true hw]
          simp only [spec_LotTake.j0]
          rw [if_neg (by decide)]
          congr 1
          funext t
          congr 1
          funext n
          rw [Option.bind_some, if_pos hz0]
        · refine Ev_bind (split_s l a b (by omega)) ?_
          rw [← ho]
          refine Ev_bind (qty_s own (by omega)) ?_
          rw [hs.1, Int.zero_add]
          by_cases ht : tot own < q
          · rw [if_pos ht]
            exact Ev_all_k fun k => if_pos ht
          · rw [if_neg ht]
            refine Ev.congr (fun k => if_neg ht) ?_
            by_cases h3 : w = 3
            · have e1 : src w own = [whole own] := by unfold src; rw [if_neg (by omega), if_neg (by omega)]
              have e2 : ∀ m, tk w m = m := fun m => by unfold tk; rw [if_neg (by omega)]
              rw [e1, e2]
              refine Ev.congr (fun k => if_pos h3) ?_
              refine Ev_bind (mean_s hO q (by omega) (by omega)) (Ev_bind (merge_s _ _ ?_) (Ev_all_k fun k => rfl))
              have := left_len [whole own] q
              simp only [List.length_singleton] at this
              show (outL a b l).length + (left [whole own] q).length ≤ 3000000
              omega
            · refine Ev.congr (fun k => if_neg h3) ?_
              by_cases h2 : w = 2
              · have e1 : src w own = own.reverse := by unfold src; rw [if_neg (by omega), if_pos h2]
                have e2 : ∀ m, tk w m = m.reverse := fun m => by unfold tk; rw [if_pos h2]
                have hj := last_s (outL a b l) (by omega) own.reverse q 0 (by rw [List.length_reverse]; omega) (fun x hx => hO.form x (List.mem_reverse.1 hx)) (by omega) (by rw [(tot_rev own).1]; omega) (by omega) (by omega) (by rw [List.length_reverse]; omega)
                rw [List.reverse_reverse, Int.zero_add] at hj
                rw [e1, e2, h2]
                exact hj
              · have e1 : src w own = own := by unfold src; rw [if_pos (by omega)]
                have e2 : ∀ m, tk w m = m := fun m => by unfold tk; rw [if_neg h2]
                have hj := first_s (outL a b l) (by omega) w h2 own q 0 (by omega) hO.form (by omega) (by omega) (by omega) (by omega) (by omega)
                rw [Int.zero_add] at hj
                rw [e1, e2]
                exact hj
      · rw [if_neg fun g => hw g.2.2]
        exact Ev.congr (fun k => by rw [decide_eq_false hw]; rfl) bad
    · rw [if_neg fun g => hq g.2.1]
      exact Ev.congr (fun k => by rw [if_neg (by rw [decide_eq_false hq]; decide)]) bad
  · rw [if_neg fun g => h g.1]
    exact Ev.congr (fun k => if_neg h) bad
theorem take_r (l : List SL) (a b q w : Int) (hl : l.length ≤ 1048576) : Ev (fun k => impl_LotTake.f k l a b q w) (takeR l a b q w) := by
  unfold impl_LotTake.f takeR
  have bad : Ev (fun k => impl_LotTake.j0 k l a b q w true) (([] : List SL), (0 : Int), (1 : Int)) := Ev_one fun k => by
    simp only [impl_LotTake.j0]
    rw [if_pos trivial]
  have okf : impl_LotsOk.f l = some (impl_LotsOk.ok l) := by
    unfold impl_LotsOk.f
    rw [if_pos (by omega)]
  by_cases h : impl_LotsOk.ok l = true
  · refine Ev.congr (fun k => by rw [okf, Option.bind_some, if_pos h, in_i, Option.bind_some]) ?_
    by_cases hq : 1 ≤ q ∧ q ≤ 1000000000000000
    · refine Ev.congr (fun k => by rw [if_pos (decide_eq_true hq), in_i, Option.bind_some]) ?_
      by_cases hw : 1 ≤ w ∧ w ≤ 3
      · rw [if_pos ⟨h, hq, hw⟩]
        have hR := (ok_iff l).1 h
        have hO := own_of hR a b
        have hf : impl_lotsOf.f l a b = some (ofL a b l) := by
          unfold impl_lotsOf.f
          rw [if_pos (by omega)]
          rfl
        obtain ⟨own, ho⟩ : ∃ own, own = ofL a b l := ⟨_, rfl⟩
        rw [← ho] at hO hf ⊢
        have hs := sums_t own 0 0 hO.form (by omega) (by omega) (by have := hO.len; omega) (by have := hO.len; omega)
        have hlen := hO.len
        have c1 : impl_Lot_55.f l = some l := by
          unfold impl_Lot_55.f
          rw [Option.bind_some, if_pos (by simp; omega), List.nil_append]
        refine Ev.step (f := fun k => (impl_sumLots.f k own).bind fun t => if t.1 < q then some (l, 0, 2) else if w = 1 then (impl_takeLots.f k own q).bind fun u => (impl_withLots.f l a b u.1).bind fun m => some (m, u.2, 0) else if w = 2 then (impl_Lot_67.f own).bind fun r => (impl_takeLots.f k r q).bind fun u => (impl_withLots.f l a b u.1).bind fun m => some (m, u.2, 0) else if w = 3 then (impl_meanLots.f k own q).bind fun u => (impl_withLots.f l a b u.1).bind fun m => some (m, u.2, 0) else (impl_withLots.f l a b ([] : List SL)).bind fun m => some (m, 0, 0)) (fun k => ?_) ?_
        · rw [decide_eq_true hw]
          simp only [impl_LotTake.j0]
          rw [if_neg (by decide), hf, Option.bind_some, c1, Option.bind_some]
        · refine Ev_bind (sums_i own (by omega)) ?_
          rw [hs.1, hs.2, Int.zero_add, Int.zero_add]
          by_cases ht : tot own < q
          · rw [if_pos ht]
            exact Ev_all_k fun k => if_pos ht
          · rw [if_neg ht]
            refine Ev.congr (fun k => if_neg ht) ?_
            have h0 : 0 < tot own := by omega
            have hm : (left (src w own) q).length ≤ 1048576 := by
              have := left_len (src w own) q
              have := (src_ok hO h0 w).1
              omega
            have hwi := (with_i l a b (left (src w own) q) (tk w (left (src w own) q)) hl hm (right_pw hR.2.2.1) (tk_perm w _) (tk_pw hO w q) (tk_own hO h0 w q)).1
            have fin : ∀ u : List SL × Int, u = (left (src w own) q, cost (src w own) q) → Ev (fun _ : Nat => (impl_withLots.f l a b u.1).bind fun m => some (m, u.2, (0 : Int))) (mergeL (outL a b l) (tk w (left (src w own) q)), cost (src w own) q, 0) := fun u hu => by
              rw [hu]
              exact Ev_all_k fun k => by rw [hwi, Option.bind_some]
            by_cases h1 : w = 1
            · have e1 : src w own = own := by unfold src; rw [if_pos h1]
              refine Ev.congr (fun k => if_pos h1) (Ev_bind (take_i own (by omega) hO.form q (by omega) (by omega)) (fin _ (by rw [e1])))
            · refine Ev.congr (fun k => if_neg h1) ?_
              by_cases h2 : w = 2
              · have e1 : src w own = own.reverse := by unfold src; rw [if_neg (by omega), if_pos h2]
                refine Ev.congr (fun k => if_pos h2) (Ev_bind (Ev_all_k fun k => rev_i own (by omega)) (Ev_bind (take_i own.reverse (by rw [List.length_reverse]; omega) (fun x hx => hO.form x (List.mem_reverse.1 hx)) q (by omega) (by omega)) (fin _ (by rw [e1]))))
              · have e1 : src w own = [whole own] := by unfold src; rw [if_neg (by omega), if_neg h2]
                refine Ev.congr (fun k => (if_neg h2).trans (if_pos (by omega))) (Ev_bind (mean_i hO q (by omega) (by omega)) (fin _ (by rw [e1])))
      · rw [if_neg fun g => hw g.2.2]
        exact Ev.congr (fun k => by rw [decide_eq_false hw]; rfl) bad
    · rw [if_neg fun g => hq g.2.1]
      exact Ev.congr (fun k => by rw [if_neg (by rw [decide_eq_false hq]; decide)]) bad
  · rw [if_neg fun g => h g.1]
    exact Ev.congr (fun k => by rw [okf, Option.bind_some, if_neg h]) bad
theorem take_len (l : List SL) (a b q w : Int) : (takeR l a b q w).1.length ≤ l.length + 1 := by
  unfold takeR
  split
  · rename_i h
    have hR := (ok_iff l).1 h.1
    have hO := own_of hR a b
    split
    · exact Nat.le_succ _
    · rename_i ht
      show (mergeL _ _).length ≤ _
      rw [merge_len, ← (tk_perm w _).length_eq]
      have h1 := left_len (src w (ofL a b l)) q
      have h2 : (src w (ofL a b l)).length ≤ (ofL a b l).length + 1 := by
        unfold src
        split
        · omega
        · split
          · rw [List.length_reverse]; omega
          · simp
      have h3 := (List.filter_append_perm (Own a b) l).length_eq
      rw [List.length_append] at h3
      have h4 : (ofL a b l).length + (outL a b l).length = l.length := h3
      omega
  · exact Nat.zero_le _
end Go.Proofs.Ytomanpmffjkkgaa.E7
namespace Go.Proofs.Ytomanpmffjkkgaa.T1
open Go Go.RowKit Go.Proofs.Ytomanpmffjkkgaa.P Go.Proofs.YtomanpmffjkkgaaW.PrintWords Go.Proofs.YtomanpmffjkkgaaW.PrintLast Go.Proofs.Ytomanpmffjkkgaa.EV
def cvLot (x : S34) : S37 := ⟨x.f0, x.f1, x.f2, x.f3, x.f4⟩
theorem sz_Lot  (l : List S34) (left : Int) (h0 : 0 ≤ left) (h1 : left ≤ 1048576) (hm : l.length ≤ 9223372036854775807) : laws_szLotS.f l left = some (if left < (l.length : Int) then -1 else left - l.length) := by
  unfold laws_szLotS.f
  rw [w64_in _ (by omega) (by omega)]
  by_cases h : left < (l.length : Int)
  · rw [if_pos h, if_pos (by omega)]
  · rw [if_neg h, if_neg (by omega)]
theorem rd1_Lot (l : List S34) (i : Nat) : rd_T34 l (i : Int) = l.getD i z34 := by unfold rd_T34; rw [Int.toNat_natCast]
theorem to_Lot  (l : List S34) (hl : l.length ≤ 1048576) : Ev (fun k => laws_toLotS.f k l) (l.map cvLot) := by
  unfold laws_toLotS.f
  have h := Ev_goes (fun k s i => laws_toLotS.l0 k l s i) l.length (fun i s => s.take i ++ (l.drop i).map cvLot) (fun i s => s.length = l.length)
    (fun s hs => Ev_one fun k => by
      simp only [laws_toLotS.l0]
      rw [if_neg (by omega), List.drop_length, List.map_nil, List.append_nil, ← hs, List.take_length])
    (fun i s hi hs => .inr ⟨s.set i (cvLot (l.getD i z34)), by rw [List.length_set]; exact hs, by
        rw [List.take_add_one, List.take_set_of_le (Nat.le_refl i), List.getElem?_set_self (by omega), List.drop_eq_getElem_cons hi, List.map_cons]
        have : l.getD i z34 = l[i] := by rw [List.getD_eq_getElem?_getD, List.getElem?_eq_getElem hi]; rfl
        rw [this]
        simp, fun k => by
        show laws_toLotS.l0 (k + 1) l s (i : Int) = _
        simp only [laws_toLotS.l0]
        rw [if_pos (by omega), if_pos (by omega), w_succ hi (by omega)]
        simp only [laws_toLot.f, Option.bind_some, rd1_Lot]
        rw [if_pos (by omega)]
        simp only [Int.toNat_natCast]
        rfl⟩) l.length 0 (List.replicate l.length z37) (by omega) (by omega) (by simp)
  refine Ev.congr (fun k => ?_) h
  rw [if_pos (by omega), if_pos (by omega)]
  rfl
theorem eq1_Lot (x : S37) : laws_eqLot.f x.f0 x.f1 x.f2 x.f3 x.f4 x.f0 x.f1 x.f2 x.f3 x.f4 = some true := by unfold laws_eqLot.f; simp
theorem eq_Lot (l : List S37) (hl : l.length ≤ 9223372036854775807) : Ev (fun k => laws_eqLotS.f k l l) true := by
  unfold laws_eqLotS.f
  obtain ⟨r, hr, hiff⟩ := Ev_asks (fun k i => laws_eqLotS.l0 k l l i) l.length (fun _ => True) true
    (Ev_one fun k => by simp only [laws_eqLotS.l0]; rw [if_neg (by omega)])
    (fun i hi => .inl ⟨trivial, fun k => by
      show laws_eqLotS.l0 (k + 1) l l (i : Int) = _
      simp only [laws_eqLotS.l0]
      rw [if_pos (by omega), if_pos (by omega), if_pos (by omega), w_succ hi (by omega)]
      simp only [eq1_Lot, Option.bind_some, if_true]⟩) l.length 0 (by omega) (by omega)
  obtain rfl : r = true := hiff.2 ⟨fun _ _ _ => trivial, rfl⟩
  refine Ev.congr (fun k => ?_) hr
  rw [if_pos rfl]
  rfl
end Go.Proofs.Ytomanpmffjkkgaa.T1
namespace Go.Proofs.Ytomanpmffjkkgaa.M1
open Go Go.RowKit Go.Proofs.Ytomanpmffjkkgaa.P Go.Proofs.YtomanpmffjkkgaaW.PrintWords Go.Proofs.YtomanpmffjkkgaaW.PrintLast Go.Proofs.Ytomanpmffjkkgaa.EV
theorem set_set_getD {α : Type} (l : List α) (i : Nat) (x z : α) (h : i < l.length) : (l.set i x).getD i z = x := by rw [getD_set, if_pos ⟨rfl, h⟩]
theorem set_set_eq {α : Type} (l : List α) (i : Nat) (x y : α) : (l.set i x).set i y = l.set i y := List.set_set ..
def mkLot (c : Int) (n : Nat) : List S37 := (List.range n).map fun (j : Nat) => (⟨c + 5 * (j : Int), c + 5 * (j : Int) + 1, c + 5 * (j : Int) + 2, c + 5 * (j : Int) + 3, c + 5 * (j : Int) + 4⟩ : S37)
theorem mkLot_len (c : Int) (n : Nat) : (mkLot c n).length = n := by unfold mkLot; simp
theorem mkLot_at (c : Int) (n j : Nat) (h : j < n) : (mkLot c n).getD j z37 = ⟨c + 5 * (j : Int), c + 5 * (j : Int) + 1, c + 5 * (j : Int) + 2, c + 5 * (j : Int) + 3, c + 5 * (j : Int) + 4⟩ := by
  unfold mkLot
  rw [List.getD_eq_getElem?_getD, List.getElem?_map, List.getElem?_range h]
  rfl
theorem rdM_Lot (l : List S37) (i : Nat) : rd_T37 l (i : Int) = l.getD i z37 := by unfold rd_T37; rw [Int.toNat_natCast]
theorem mark_Lot (l : List S37) (c : Int) (h0 : 0 ≤ c) (h1 : c ≤ 1000000000000) (hl : l.length ≤ 1048577) : Ev (fun k => laws_markLotS.f k l c) (c + 5 * (l.length : Int), mkLot c l.length) := by
  unfold laws_markLotS.f
  have h := Ev_goes (fun k (s : List S37 × Int) i => laws_markLotS.l0 k s.1 s.2 i) l.length (fun _ _ => (c + 5 * (l.length : Int), mkLot c l.length)) (fun i s => s.1.length = l.length ∧ s.2 = c + 5 * (i : Int) ∧ ∀ j, j < i → s.1.getD j z37 = ⟨c + 5 * (j : Int), c + 5 * (j : Int) + 1, c + 5 * (j : Int) + 2, c + 5 * (j : Int) + 3, c + 5 * (j : Int) + 4⟩)
    (fun s hs => Ev_one fun k => by
      obtain ⟨s1, s2, s3⟩ := hs
      simp only [laws_markLotS.l0]
      rw [if_neg (by omega), s2]
      congr 2
      refine ext_getD z37 (by rw [mkLot_len, s1]) fun i hi => ?_
      rw [s3 i (by omega), mkLot_at _ _ _ (by omega)])
    (fun i s hi hs => by
      obtain ⟨s1, s2, s3⟩ := hs
      obtain ⟨l1, x⟩ := s
      dsimp only at s1 s2 s3
      refine .inr ⟨(l1.set i (⟨c + 5 * (i : Int), c + 5 * (i : Int) + 1, c + 5 * (i : Int) + 2, c + 5 * (i : Int) + 3, c + 5 * (i : Int) + 4⟩ : S37), c + 5 * ((i + 1 : Nat) : Int)), ⟨by rw [List.length_set]; exact s1, rfl, fun j hj => ?_⟩, rfl, fun k => ?_⟩
      · rw [getD_set]
        by_cases e : i = j
        · subst e
          rw [if_pos ⟨rfl, by omega⟩]
        · rw [if_neg (fun g => e g.1)]
          exact s3 j (by omega)
      · show laws_markLotS.l0 (k + 1) l1 x (i : Int) = _
        simp only [laws_markLotS.l0]
        rw [if_pos (by omega), if_pos (by omega), w_succ hi (by omega)]
        simp only [Option.bind_some, rdM_Lot, Int.toNat_natCast, set_set_eq, set_set_getD l1 i _ z37 (show i < l1.length by omega)]
        subst s2
        have w0 : wrap64 (c + 5 * (i : Int) + 1) = c + 5 * (i : Int) + 1 := by unfold wrap64; omega
        have w1 : wrap64 (c + 5 * (i : Int) + 1 + 1) = c + 5 * (i : Int) + 2 := by unfold wrap64; omega
        have w2 : wrap64 (c + 5 * (i : Int) + 2 + 1) = c + 5 * (i : Int) + 3 := by unfold wrap64; omega
        have w3 : wrap64 (c + 5 * (i : Int) + 3 + 1) = c + 5 * (i : Int) + 4 := by unfold wrap64; omega
        have w4 : wrap64 (c + 5 * (i : Int) + 4 + 1) = c + 5 * (i : Int) + 5 := by unfold wrap64; omega
        simp only [w0, w1, w2, w3, w4]
        have e2 : c + 5 * ((i + 1 : Nat) : Int) = c + 5 * (i : Int) + 5 := by omega
        rw [e2]) l.length 0 (l, c) (by omega) (by omega) ⟨rfl, by omega, fun j hj => by omega⟩
  exact h
theorem held_Lot (n : Nat) (c : Int) (h0 : 0 ≤ c) (h1 : c ≤ 1000000000000) (hl : n ≤ 1048577) : Ev (fun k => laws_heldLotS.f k (mkLot c n) c) (c + 5 * (n : Int)) := by
  unfold laws_heldLotS.f
  have h := Ev_goes (fun k (s : Int) i => laws_heldLotS.l0 k (mkLot c n) s i) n (fun _ _ => c + 5 * (n : Int)) (fun i s => s = c + 5 * (i : Int))
    (fun s hs => Ev_one fun k => by
      simp only [laws_heldLotS.l0]
      rw [if_neg (by rw [mkLot_len]; omega), hs])
    (fun i s hi hs => by
      refine .inr ⟨c + 5 * ((i + 1 : Nat) : Int), rfl, rfl, fun k => ?_⟩
      show laws_heldLotS.l0 (k + 1) (mkLot c n) s (i : Int) = _
      subst hs
      simp only [laws_heldLotS.l0]
      rw [if_pos (by rw [mkLot_len]; omega), if_pos (by omega), w_succ hi (by omega)]
      simp only [rdM_Lot, mkLot_at c n i hi]
      have w0 : wrap64 (c + 5 * (i : Int) + 1) = c + 5 * (i : Int) + 1 := by unfold wrap64; omega
      have w1 : wrap64 (c + 5 * (i : Int) + 1 + 1) = c + 5 * (i : Int) + 2 := by unfold wrap64; omega
      have w2 : wrap64 (c + 5 * (i : Int) + 2 + 1) = c + 5 * (i : Int) + 3 := by unfold wrap64; omega
      have w3 : wrap64 (c + 5 * (i : Int) + 3 + 1) = c + 5 * (i : Int) + 4 := by unfold wrap64; omega
      have w4 : wrap64 (c + 5 * (i : Int) + 4 + 1) = c + 5 * (i : Int) + 5 := by unfold wrap64; omega
      simp only [w0, w1, w2, w3, w4]
      have e2 : c + 5 * ((i + 1 : Nat) : Int) = c + 5 * (i : Int) + 5 := by omega
      rw [if_pos trivial, if_pos trivial, if_pos trivial, if_pos trivial, if_pos trivial, e2]) n 0 c (by omega) (by omega) (by omega)
  exact h
end Go.Proofs.Ytomanpmffjkkgaa.M1
namespace Go.Proofs.Ytomanpmffjkkgaa.Pure
open Go Go.RowKit Go.Proofs.Ytomanpmffjkkgaa.P Go.Proofs.YtomanpmffjkkgaaW.PrintWords Go.Proofs.YtomanpmffjkkgaaW.PrintLast Go.Proofs.Ytomanpmffjkkgaa.EV Go.Proofs.Ytomanpmffjkkgaa.I1 Go.Proofs.Ytomanpmffjkkgaa.E1 Go.Proofs.Ytomanpmffjkkgaa.E7 Go.Proofs.Ytomanpmffjkkgaa.T1 Go.Proofs.Ytomanpmffjkkgaa.M1
theorem FnExactLotTake : ∀ (l0 : List (S34)) (a1 : Int) (a2 : Int) (a3 : Int) (a4 : Int), l0.length ≤ 9223372036854775807 → (∀ x ∈ l0, (Lit.int .i64 x.f0).wf = true ∧ (Lit.int .i64 x.f1).wf = true ∧ (Lit.int .i64 x.f2).wf = true ∧ (Lit.int .i64 x.f3).wf = true ∧ (Lit.int .i64 x.f4).wf = true) → (Lit.int .i64 a1).wf = true → (Lit.int .i64 a2).wf = true → (Lit.int .i64 a3).wf = true → (Lit.int .i64 a4).wf = true → ∃ k, laws_FnExactLotTake.f k l0 a1 a2 a3 a4 = some true := by
  intro l b0 b1 b2 b3 hm0 _ _ _ _ _
  refine Ev.rounds ?_
  unfold laws_FnExactLotTake.f
  by_cases hl : 1048576 < l.length
  · exact Ev_all_k fun k => by rw [sz_Lot l 1048576 (by decide) (by decide) hm0, if_pos (by omega), Option.bind_some, if_pos (by decide)]
  · have hm : l.length ≤ 1048576 := by omega
    have hc : (l.map cvLot).length ≤ 1048576 := by rw [List.length_map]; exact hm
    refine Ev.congr (fun k => by rw [sz_Lot l 1048576 (by decide) (by decide) (by omega), if_neg (by omega), Option.bind_some, if_neg (by omega)]) ?_
    obtain ⟨o, ho⟩ : ∃ o, o = takeR (l.map cvLot) b0 b1 b2 b3 := ⟨_, rfl⟩
    have hS : Ev (fun k => spec_LotTake.f k (l.map cvLot) b0 b1 b2 b3) o := by rw [ho]; exact take_s (l.map cvLot) b0 b1 b2 b3 hc
    have hI : Ev (fun k => impl_LotTake.f k (l.map cvLot) b0 b1 b2 b3) o := by rw [ho]; exact take_r (l.map cvLot) b0 b1 b2 b3 hc
    have ol : o.1.length ≤ 1048577 := by have := take_len (l.map cvLot) b0 b1 b2 b3; rw [ho]; omega
    have hb : (o.2.2 != o.2.2) = false := by simp
    refine Ev_bind (to_Lot l hm) (Ev_bind hS (Ev_bind (to_Lot l hm) (Ev_bind hI (Ev_bind (eq_Lot o.1 (by omega)) ?_))))
    refine Ev.congr (fun k => by first | rw [if_pos rfl, if_pos rfl, hb] | rw [if_pos rfl, if_pos trivial, hb]) ?_
    refine Ev.step (fun k => by simp only [laws_FnExactLotTake.j0]; rw [if_neg (by decide)]) ?_
    refine Ev_bind (to_Lot l hm) (Ev_bind (eq_Lot _ (by omega)) ?_)
    refine Ev.congr (fun k => if_pos rfl) ?_
    refine Ev_bind (mark_Lot _ 1 (by decide) (by decide) (by omega)) ?_
    refine Ev.congr (fun k => if_neg (by show ¬ ((1 : Int) + 5 * ((l.map cvLot).length : Int) < 0); omega)) ?_
    refine Ev_bind (eq_Lot o.1 (by omega)) ?_
    refine Ev.congr (fun k => by first | rw [if_pos rfl, if_pos rfl, hb] | rw [if_pos rfl, if_pos trivial, hb]) ?_
    refine Ev.step (fun k => by simp only [laws_FnExactLotTake.j1]; rw [if_neg (by decide)]) ?_
    refine Ev_bind (mark_Lot o.1 1 (by decide) (by decide) ol) (Ev_bind (held_Lot o.1.length 1 (by decide) (by decide) ol) ?_)
    refine Ev.congr (fun k => (if_neg (by show ¬ ((1 : Int) + 5 * (o.1.length : Int) < 0); omega)).trans (if_pos rfl)) ?_
    refine Ev_bind (to_Lot l hm) (Ev_bind hI (Ev_bind (eq_Lot o.1 (by omega)) ?_))
    refine Ev.congr (fun k => by first | rw [if_pos rfl, if_pos rfl, hb] | rw [if_pos rfl, if_pos trivial, hb]) ?_
    refine Ev.step (fun k => by simp only [laws_FnExactLotTake.j2]; rw [if_neg (by decide)]) ?_
    refine Ev_bind (held_Lot o.1.length 1 (by decide) (by decide) ol) ?_
    exact Ev_all_k fun k => by rw [if_neg (by omega), if_pos rfl]
end Go.Proofs.Ytomanpmffjkkgaa.Pure
namespace Go.Proofs.Ytomanpmffjkkgaa.RS
open Go Go.ChangeShapes Go.WideShapes Go.Deep Go.RowKit Go.Proofs.YtomanpmffjkkgaaW.PrintWords
def allInts (P : Program) (fs : Array Field) : Bool := (List.range fs.size).all fun i => match fs[i]? with
  | some f => (match P.underlying f.type with | some (.int .i64) => true | _ => false)
  | none => false
theorem allInts_of {P : Program} {fs : Array Field} (h : allInts P fs = true) : ∀ (i : Nat) (f : Field), fs[i]? = some f → P.underlying f.type = some (.int .i64) := by
  intro i f hi
  have hlt : i < fs.size := (Array.getElem?_eq_some_iff.1 hi).1
  have z := List.all_eq_true.1 h i (List.mem_range.2 hlt)
  simp only [hi] at z
  split at z
  · assumption
  · cases z
section
variable {H : Type} {enc : TypeId × Value → H} {P : Program} {w : World} {base : Nat} {spare : Nat → Bool} {held : Bool}
theorem open_rows {t e : TypeId} {fs : Array Field} {fuel : Nat} {v : Value} {x : DataW H × List MemPlace} (ht : P.underlying t = some (.slice e)) (he : P.underlying e = some (.struct fs))
    (hone : oneCellFields P fs = true) (hint : allInts P fs = true) (hC : P.cellsOf e = fs.size) (h : DataW.trod enc P w base spare held fuel t [v] = some x) :
    ∃ (A : Option Addr) (len cap : Nat) (X : Nat → Nat → Int), v = .slice A len cap ∧ len ≤ cap ∧ cap ≤ maxLen ∧
      (0 < len → ∃ ad, A = some ad ∧ ∀ i, i < len → ∀ j, j < fs.size → w.cell? (ad.add (i * fs.size + j)) = some (.int .i64 (X i j)) ∧ (Lit.int .i64 (X i j)).wf = true) := by
  rcases open_slice ht h with ⟨hcs, _⟩ | ⟨a, len, cap, m, n, D, Pl, hcs, _, hl, hm, hmm, _, hi⟩
  · simp only [List.cons.injEq, and_true] at hcs
    exact ⟨none, 0, 0, fun _ _ => 0, hcs, Nat.le_refl _, Nat.zero_le _, fun hp => absurd hp (Nat.lt_irrefl 0)⟩
  · simp only [List.cons.injEq, and_true] at hcs
    have hmle : len ≤ m := by rw [hmm]; split <;> omega
    have key : ∀ i, i < len → ∃ f : Nat → Int, ∀ j, j < fs.size → w.cell? (a.add (i * fs.size + j)) = some (.int .i64 (f j)) ∧ (Lit.int .i64 (f j)).wf = true := by
      intro i him
      obtain ⟨cs', hc, ht'⟩ := hi i (by omega)
      rw [hC] at hc
      obtain ⟨ys, n', hn', hy, hlen, hyl, hf⟩ := DataW.trod_struct he ht'
      obtain ⟨_, hcl, hat⟩ := World.cells?_some hc
      refine choose_lt (α := Int) (n := fs.size) (p := fun j q => w.cell? (a.add (i * fs.size + j)) = some (.int .i64 q) ∧ (Lit.int .i64 q).wf = true) fun j hj => ?_
      have hfj : fs[j]? = some fs[j] := Array.getElem?_eq_getElem hj
      obtain ⟨ho, hk⟩ := hone_of hone j _ hfj
      have h1 := hf j _ hfj
      rw [ho, hk, take1_drop cs' j undef (by omega)] at h1
      have hys : ys[j]? = some (ys[j]'(by omega)) := List.getElem?_eq_getElem (by omega)
      rw [hys] at h1
      obtain ⟨q, hq, _, hwf⟩ := DataW.trod_int (allInts_of hint j _ hfj) h1
      simp only [List.cons.injEq, and_true] at hq
      have hcell := hat j (by omega)
      rw [List.getElem?_eq_getElem (by omega)] at hcell
      have hgd : cs'.getD j undef = cs'[j]'(by omega) := by
        rw [List.getD_eq_getElem?_getD, List.getElem?_eq_getElem (by omega), Option.getD_some]
      rw [hgd] at hq
      exact ⟨q, by rw [← Go.Deep.add_add, hcell, hq], hwf⟩
    obtain ⟨X, hX⟩ := choose_lt (α := Nat → Int) (n := len) (p := fun i f => ∀ j, j < fs.size → w.cell? (a.add (i * fs.size + j)) = some (.int .i64 (f j)) ∧ (Lit.int .i64 (f j)).wf = true) key
    exact ⟨some a, len, cap, X, hcs, hl, hm, fun _ => ⟨a, rfl, fun i him => hX i him⟩⟩
end
theorem getD_range {α : Type} (n : Nat) (f : Nat → α) (i : Nat) (p : α) (h : ((List.range n).map f)[i]? = some p) : i < n ∧ p = f i := by
  have hi := (List.getElem?_eq_some_iff.1 h).1
  simp only [List.length_map, List.length_range] at hi
  refine ⟨hi, ?_⟩
  rw [List.getElem?_map, List.getElem?_range hi] at h
  simpa using h.symm
theorem mem_map_range {α : Type} {n : Nat} {f : Nat → α} {x : α} (h : x ∈ (List.range n).map f) : ∃ i, i < n ∧ x = f i := by
  obtain ⟨i, hi, rfl⟩ := List.mem_map.1 h
  exact ⟨i, List.mem_range.1 hi, rfl⟩
end Go.Proofs.Ytomanpmffjkkgaa.RS
namespace Go.Proofs.Ytomanpmffjkkgaa.RT
open Go Go.RowKit Go.Proofs.Ytomanpmffjkkgaa.P Go.Proofs.YtomanpmffjkkgaaW.PrintWords Go.Proofs.YtomanpmffjkkgaaW.PrintLast
theorem row34 {W : World} {A : Option Addr} {len : Nat} {X : Nat → Nat → Int} (hm : len ≤ maxLen) (hx : 0 < len → ∃ ad, A = some ad ∧ ∀ i, i < len → ∀ j, j < 5 → W.cell? (ad.add (i * 5 + j)) = some (.int .i64 (X i j)) ∧ (Lit.int .i64 (X i j)).wf = true) :
    ∃ l : List S34, len = l.length ∧ Kd.C k34 W A l.length l ∧ ∀ x ∈ l, (Lit.int .i64 x.f0).wf = true ∧ (Lit.int .i64 x.f1).wf = true ∧ (Lit.int .i64 x.f2).wf = true ∧ (Lit.int .i64 x.f3).wf = true ∧ (Lit.int .i64 x.f4).wf = true := by
  refine ⟨(List.range len).map fun i => (⟨X i 0, X i 1, X i 2, X i 3, X i 4⟩ : S34), by simp, ⟨rfl, by simp only [List.length_map, List.length_range]; exact hm, fun hn => ?_⟩, fun x hxm => ?_⟩
  · obtain ⟨ad, e, hc⟩ := hx (by simpa using hn)
    refine ⟨ad, e, fun j p hj => ⟨_, rfl, k34_mk W p, fun i u hu => ?_⟩⟩
    obtain ⟨hjl, rfl⟩ := RS.getD_range _ _ _ _ hj
    have hi : i < 5 := (List.getElem?_eq_some_iff.1 hu).1
    have hcell := (hc j hjl i hi).1
    match i, hi, hu, hcell with
    | 0, _, hu, hcell => exact hcell.trans hu
    | 1, _, hu, hcell => exact hcell.trans hu
    | 2, _, hu, hcell => exact hcell.trans hu
    | 3, _, hu, hcell => exact hcell.trans hu
    | 4, _, hu, hcell => exact hcell.trans hu
  · obtain ⟨i, hi, rfl⟩ := RS.mem_map_range hxm
    obtain ⟨ad, e, hc⟩ := hx (by omega)
    exact ⟨(hc i hi 0 (by decide)).2, (hc i hi 1 (by decide)).2, (hc i hi 2 (by decide)).2, (hc i hi 3 (by decide)).2, (hc i hi 4 (by decide)).2⟩
end Go.Proofs.Ytomanpmffjkkgaa.RT
namespace Go.Proofs.Ytomanpmffjkkgaa.fnExactLotTake
open Go.ChangeShapes Go.WideShapes Go.ChangeAt Go.RowKit Go.Proofs.YtomanpmffjkkgaaW.PrintWords
open Go.ChangeMaps (open_string shut_string)
set_option linter.unusedVariables false
theorem own : ownKnob Try.prog.godebug = none := by kernel_rfl
theorem laidOut : laidOutB Try.prog = true := by kernel_rfl
set_option maxRecDepth 100000 in
theorem lifted (os : Os) (started : os.Started) (H : Type) (enc : TypeId × Value → H) :
    ReturnsInHanded {} Try.checked os 9 .any (Rows.fnExactLotTakeSpec.pre6 enc Try.prog Try.f9 Rows.fnExactLotTakeRow.domain false) (Rows.fnExactLotTakeSpec.post enc Try.prog Try.f9 false true false false) := by
  refine returnsInHanded_of_change_sized (C := Try.checked) own started (by kernel_rfl) Try.func9
    (ChangeSpec.witness6 (enc := enc) (C := Try.checked) false ⟨#[], #[.slice none 0 0, .int .i64 0, .int .i64 0, .int .i64 0, .int .i64 0], []⟩ 8 (by kernel_rfl) (by kernel_rfl) (by kernel_rfl) (by kernel_rfl)) ?_
  intro W base args ds gs before hval0 hW hcnd hsz0 _
  have hsz : (DataW.weightsEach Try.prog (Try.f9.params.toList ++ Rows.fnExactLotTakeSpec.plain.varTypes Try.prog) (ds ++ gs)).all (· ≤ reachBytes) = true := hsz0
  have hval : ∀ (j : Nat) t v, Try.f9.params[j]? = some t → args[j]? = some v → Value.okWide Try.prog W .any base t v := hval0
  have hW' := hW
  obtain ⟨p, q, hA0, hV, rfl, hfz, hnd⟩ := hW
  have hA : DataW.TrodAll enc Try.prog W 0 (fun _ => true) true Try.f9.params.toList args.toList ds p := hA0
  rw [Try.params9] at hA hval hsz
  obtain ⟨v0, vs0, d0, ds0, p0, q0, hargs, rfl, rfl, h0, r0⟩ := trodAll_cons hA
  obtain ⟨v1, vs1, d1, ds1, p1, q1, rfl, rfl, rfl, h1, r1⟩ := trodAll_cons r0
  obtain ⟨v2, vs2, d2, ds2, p2, q2, rfl, rfl, rfl, h2, r2⟩ := trodAll_cons r1
  obtain ⟨v3, vs3, d3, ds3, p3, q3, rfl, rfl, rfl, h3, r3⟩ := trodAll_cons r2
  obtain ⟨v4, vs4, d4, ds4, p4, q4, rfl, rfl, rfl, h4, r4⟩ := trodAll_cons r3
  obtain ⟨rfl, rfl, rfl⟩ := trodAll_nil r4
  obtain rfl : args = #[v0, v1, v2, v3, v4] := by cases args; simp_all
  obtain ⟨rfl, rfl⟩ := trodVars_none hV
  obtain ⟨a0, len0, cap0, rfl⟩ := okWide_slice Try.underlying22 (hval 0 22 v0 rfl rfl)
  have k0 := h0
  have lt0 : ∀ x ∈ p0, x.block < W.heap.size := by obtain ⟨m, hm⟩ := k0; exact DataW.trod_lt m _ _ _ hm
  obtain ⟨fu0, hf0⟩ := h0
  obtain ⟨A0, n0, c0, X0, hv0, hl0, hm0, hx0⟩ := RS.open_rows Try.underlying22 Try.underlying34 (by kernel_rfl) (by kernel_rfl) (by kernel_rfl) (v := .slice a0 len0 cap0) hf0
  obtain ⟨rfl, rfl, rfl⟩ := Value.slice.inj hv0
  obtain ⟨l0, e0, hr0, hw0⟩ := RT.row34 (Nat.le_trans hl0 hm0) hx0
  subst e0
  obtain ⟨a1, rfl, rfl, rfl, w1⟩ := open_int Try.underlying3 (hval 1 3 v1 rfl rfl) h1
  obtain ⟨a2, rfl, rfl, rfl, w2⟩ := open_int Try.underlying3 (hval 2 3 v2 rfl rfl) h2
  obtain ⟨a3, rfl, rfl, rfl, w3⟩ := open_int Try.underlying3 (hval 3 3 v3 rfl rfl) h3
  obtain ⟨a4, rfl, rfl, rfl, w4⟩ := open_int Try.underlying3 (hval 4 3 v4 rfl rfl) h4
  clear hA0 hval0 hsz0 hsz
  obtain ⟨k, hpure⟩ := Pure.FnExactLotTake l0 a1 a2 a3 a4 (Kd.C_max hr0) hw0 w1 w2 w3 w4
  refine (P.laws_FnExactLotTake.calls k _ _ l0 a1 a2 a3 a4 true W hr0 hl0 hpure).mono fun e W' hpost => ?_
  obtain ⟨he, hd⟩ := hpost
  have bel : Below W.heap.size W W' := hd
  subst he
  exact ⟨_, rfl, _, _, _, [], _, [], hW', trodAll_mk1 (shut_bool Try.underlying4 _), (trodAll_cons_mk (Below.trod laidOut (by kernel_rfl) (of_decide_eq_true (by kernel_rfl)) k0 bel lt0) (trodAll_cons_mk (shut_int Try.underlying3 w1) (trodAll_cons_mk (shut_int Try.underlying3 w2) (trodAll_cons_mk (shut_int Try.underlying3 w3) (trodAll_cons_mk (shut_int Try.underlying3 w4) trodAll_mk0))))), rfl, bel.frame _, fun h => by cases h⟩
theorem over : Rows.fnExactLotTakeRow.holds Try.pinned (OpenSpec.ofChange Rows.fnExactLotTakeSpec) :=
  OpenClaim.holds_of_wide 9 Try.f9 rfl rfl rfl rfl rfl rfl rfl ⟨rfl, rfl, rfl, rfl, rfl⟩ rfl rfl rfl rfl rfl (by kernel_rfl) Try.func9 (by kernel_rfl)
    (of_decide_eq_true (by kernel_rfl)) (by unfold Func.isWrapper; first | (rw [if_pos (by decide +kernel)]; kernel_rfl) | (rw [if_neg (by decide +kernel)]; exact ⟨rfl, rfl⟩))
    (fun os started H enc _ => lifted os started H enc)
theorem proved : Rows.FnExactLotTakeSaid := over
#print axioms proved
end Go.Proofs.Ytomanpmffjkkgaa.fnExactLotTake
namespace Go.Proofs.Ytomanpmffjkkgaa
theorem fnExactLotTake_holds : Rows.FnExactLotTakeSaid := fnExactLotTake.proved
end Go.Proofs.Ytomanpmffjkkgaa
