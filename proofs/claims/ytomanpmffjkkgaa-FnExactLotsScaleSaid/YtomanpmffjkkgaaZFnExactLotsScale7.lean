/- LotsScale of the program and of the reference agree at every list, pair and number, and the answer is a list of its own. -/
import Derived.Test.YtomanpmffjkkgaaZFnExactLotsScale6
import Derived.Deep.Slices
import Derived.Deep.Fields
import Derived.ChangeSame
import Derived.ChangeShapes
import Derived.WideShapes
import Derived.SizedLaws
import Derived.Test.YtomanpmffjkkgaaRows
import Derived.WalkKit
import Derived.ProofKit
import Derived.OpenShut
import Derived.ShutString
import Derived.ChangeOld
import Derived.Below
import Derived.Carry
namespace Go.Proofs.Ytomanpmffjkkgaa.EV
end Go.Proofs.Ytomanpmffjkkgaa.EV
namespace Go.Proofs.Ytomanpmffjkkgaa.S2
end Go.Proofs.Ytomanpmffjkkgaa.S2
namespace Go.Proofs.Ytomanpmffjkkgaa.S3
end Go.Proofs.Ytomanpmffjkkgaa.S3
namespace Go.Proofs.Ytomanpmffjkkgaa.S4
end Go.Proofs.Ytomanpmffjkkgaa.S4
namespace Go.Proofs.Ytomanpmffjkkgaa.S5
end Go.Proofs.Ytomanpmffjkkgaa.S5
namespace Go.Proofs.Ytomanpmffjkkgaa.P
end Go.Proofs.Ytomanpmffjkkgaa.P
namespace Go.Proofs.Ytomanpmffjkkgaa.I1
end Go.Proofs.Ytomanpmffjkkgaa.I1
namespace Go.Proofs.Ytomanpmffjkkgaa.TI
end Go.Proofs.Ytomanpmffjkkgaa.TI
namespace Go.Proofs.Ytomanpmffjkkgaa.W1
end Go.Proofs.Ytomanpmffjkkgaa.W1
namespace Go.Proofs.Ytomanpmffjkkgaa.W2
end Go.Proofs.Ytomanpmffjkkgaa.W2
namespace Go.Proofs.Ytomanpmffjkkgaa.S7
end Go.Proofs.Ytomanpmffjkkgaa.S7
namespace Go.Proofs.Ytomanpmffjkkgaa.A2
end Go.Proofs.Ytomanpmffjkkgaa.A2
namespace Go.Proofs.Ytomanpmffjkkgaa.W3
end Go.Proofs.Ytomanpmffjkkgaa.W3
namespace Go.Proofs.Ytomanpmffjkkgaa.W4
end Go.Proofs.Ytomanpmffjkkgaa.W4
namespace Go.Proofs.Ytomanpmffjkkgaa.N1
end Go.Proofs.Ytomanpmffjkkgaa.N1
namespace Go.Proofs.Ytomanpmffjkkgaa.E1
end Go.Proofs.Ytomanpmffjkkgaa.E1
namespace Go.Proofs.Ytomanpmffjkkgaa.E2
end Go.Proofs.Ytomanpmffjkkgaa.E2
namespace Go.Proofs.Ytomanpmffjkkgaa.E3
end Go.Proofs.Ytomanpmffjkkgaa.E3
namespace Go.Proofs.Ytomanpmffjkkgaa.E5
end Go.Proofs.Ytomanpmffjkkgaa.E5
namespace Go.Proofs.Ytomanpmffjkkgaa.E6
end Go.Proofs.Ytomanpmffjkkgaa.E6
namespace Go.Proofs.Ytomanpmffjkkgaa.E7
end Go.Proofs.Ytomanpmffjkkgaa.E7
namespace Go.Proofs.Ytomanpmffjkkgaa.E8
end Go.Proofs.Ytomanpmffjkkgaa.E8
namespace Go.Proofs.Ytomanpmffjkkgaa.E9
end Go.Proofs.Ytomanpmffjkkgaa.E9
namespace Go.Proofs.Ytomanpmffjkkgaa.T1
end Go.Proofs.Ytomanpmffjkkgaa.T1
namespace Go.Proofs.Ytomanpmffjkkgaa.M1
end Go.Proofs.Ytomanpmffjkkgaa.M1
namespace Go.Proofs.Ytomanpmffjkkgaa.S5
open Go Go.RowKit Go.Proofs.Ytomanpmffjkkgaa Go.Proofs.YtomanpmffjkkgaaW.PrintWords Go.Proofs.Ytomanpmffjkkgaa.EV Go.Proofs.Ytomanpmffjkkgaa.S2 Go.Proofs.Ytomanpmffjkkgaa.S3 Go.Proofs.Ytomanpmffjkkgaa.S4
theorem rdd (l : List Int) (i : Nat) : rd l (i : Int) = l.getD i default := by unfold rd; rw [Int.toNat_natCast]; rfl
theorem wadd (a b : Nat) (h : a + b ≤ 1000000) : wrap64 ((a : Int) + (b : Int)) = ((a + b : Nat) : Int) := by unfold wrap64; omega
theorem wsub (a b : Nat) (h : b ≤ a) (h' : a ≤ 1000000) : wrap64 ((a : Int) - (b : Int)) = ((a - b : Nat) : Int) := by unfold wrap64; omega
theorem wone (a : Nat) (h : a ≤ 1000000) : wrap64 ((a : Int) + 1) = ((a + 1 : Nat) : Int) := by unfold wrap64; omega
theorem wpre (a : Nat) (h : a ≤ 1000000) : wrap64 (((a + 1 : Nat) : Int) - 1) = (a : Int) := by unfold wrap64; omega
theorem half (a b : Nat) (h : a + b ≤ 1000000) : wrap64 ((IntKind.u64.wrap (wrap64 ((a : Int) + (b : Int)))) / 2) = (((a + b) / 2 : Nat) : Int) := by
  rw [wadd a b h, L1.u64w_id _ (by omega) (by omega)]
  unfold wrap64
  omega
theorem swap_set (l : List Int) (i j : Nat) : (l.set (i : Int).toNat (rd l (j : Int))).set (j : Int).toNat (rd l (i : Int)) = swap1 l i j := by
  unfold swap1
  rw [rdd, rdd, Int.toNat_natCast, Int.toNat_natCast]
def In (p : Int → Prop) (n : Nat) (l : List Int) : Prop := l.length = n ∧ ∀ e ∈ l, p e
section
variable {p : Int → Prop} {n : Nat} {l : List Int}
theorem In.get (h : In p n l) {i : Nat} (hi : i < n) : p (l.getD i default) := h.2 _ (getD_mem (by rw [h.1]; exact hi))
theorem In.swap (h : In p n l) {i j : Nat} (hi : i < n) (hj : j < n) : In p n (swap1 l i j) := by
  unfold swap1
  refine ⟨by rw [List.length_set, List.length_set]; exact h.1, fun e he => ?_⟩
  rcases List.mem_or_eq_of_mem_set he with he | rfl
  · rcases List.mem_or_eq_of_mem_set he with he | rfl
    · exact h.2 e he
    · exact h.get hj
  · exact h.get hi
theorem In.swapR (h : In p n l) {a b : Nat} : ∀ (q : Nat), a + q ≤ n → b + q ≤ n → In p n (swapR l a b q)
  | 0, _, _ => h
  | q + 1, ha, hb => (In.swapR h q (by omega) (by omega)).swap (by omega) (by omega)
end
theorem swapR_ev {p : Int → Prop} {n : Nat} (l : List Int) (a b q : Nat) (z : Int) (h : In p n l) (ha : a + q ≤ n) (hb : b + q ≤ n) (hn : n ≤ 1000) : Ev (fun k => SB.slices_swapRangeCmpFunc_int.f k l a b q z) (swapR l a b q) := by
  unfold SB.slices_swapRangeCmpFunc_int.f
  have key : ∀ (d i : Nat), q - i = d → i ≤ q → Ev (fun k => SB.slices_swapRangeCmpFunc_int.l0 k (swapR l a b i) a b q (i : Int)) (swapR l a b q) := by
    intro d
    induction d with
    | zero =>
      intro i hd hi
      obtain rfl : i = q := by omega
      exact Ev_one fun k => by
        simp only [SB.slices_swapRangeCmpFunc_int.l0]
        rw [if_neg (by omega)]
    | succ d ih =>
      intro i hd hi
      refine Ev.step (f := fun k => SB.slices_swapRangeCmpFunc_int.l0 k (swapR l a b (i + 1)) a b q ((i + 1 : Nat) : Int)) (fun k => ?_) (ih (i + 1) (by omega) (by omega))
      have hlen := (h.swapR (a := a) (b := b) i (by omega) (by omega)).1
      simp only [SB.slices_swapRangeCmpFunc_int.l0]
      rw [if_pos (by omega), wadd b i (by omega), wadd a i (by omega), wone i (by omega), if_pos (by omega), if_pos (by omega), if_pos (by omega), if_pos (by omega), swap_set]
      rfl
  exact key q 0 (by omega) (by omega)
theorem rot_ev {p : Int → Prop} {n : Nat} (hn : n ≤ 1000) (z : Int) : ∀ (k : Nat) (l : List Int) (m i j : Nat), In p n l → i + j ≤ k → 0 < i → 0 < j → i ≤ m → m + j ≤ n → In p n (rot l m k i j) ∧ Ev (fun f => SB.slices_rotateCmpFunc_int.l0 f l m z i j) (rot l m k i j)
  | 0, l, m, i, j, h, hk, hi, hj, hm, hl => by omega
  | k + 1, l, m, i, j, h, hk, hi, hj, hm, hl => by
    by_cases e : i = j
    · subst e
      rw [rot, if_pos rfl]
      refine ⟨h.swapR _ (by omega) (by omega), ?_⟩
      refine Ev.step (f := fun f => (SB.slices_swapRangeCmpFunc_int.f f l ((m - i : Nat) : Int) m i z).bind fun t => some t) (fun f => ?_) (Ev_bind (swapR_ev l (m - i) m i z h (by omega) (by omega) hn) (Ev.now _))
      simp only [SB.slices_rotateCmpFunc_int.l0]
      rw [if_pos trivial, wsub m i (by omega) (by omega)]
    · rw [rot, if_neg e]
      by_cases g : i > j
      · rw [if_pos g]
        have hs := h.swapR (a := m - i) (b := m) j (by omega) (by omega)
        have ih := rot_ev hn z k _ m (i - j) j hs (by omega) (by omega) (by omega) (by omega) (by omega)
        refine ⟨ih.1, ?_⟩
        refine Ev.step (f := fun f => (SB.slices_swapRangeCmpFunc_int.f f l ((m - i : Nat) : Int) m j z).bind fun t => SB.slices_rotateCmpFunc_int.l0 f t m z ((i - j : Nat) : Int) j) (fun f => ?_) (Ev_bind (swapR_ev l (m - i) m j z h (by omega) (by omega) hn) ih.2)
        simp only [SB.slices_rotateCmpFunc_int.l0]
        rw [if_neg (by omega), if_pos (by omega), wsub m i (by omega) (by omega), wsub i j (by omega) (by omega)]
      · rw [if_neg g]
        have hs := h.swapR (a := m - i) (b := m + j - i) i (by omega) (by omega)
        have ih := rot_ev hn z k _ m i (j - i) hs (by omega) (by omega) (by omega) (by omega) (by omega)
        refine ⟨ih.1, ?_⟩
        refine Ev.step (f := fun f => (SB.slices_swapRangeCmpFunc_int.f f l ((m - i : Nat) : Int) ((m + j - i : Nat) : Int) i z).bind fun t => SB.slices_rotateCmpFunc_int.l0 f t m z i ((j - i : Nat) : Int)) (fun f => ?_) (Ev_bind (swapR_ev l (m - i) (m + j - i) i z h (by omega) (by omega) hn) ih.2)
        simp only [SB.slices_rotateCmpFunc_int.l0]
        rw [if_neg (by omega), if_neg (by omega), wsub m i (by omega) (by omega), wadd m j (by omega), wsub (m + j) i (by omega) (by omega), wsub j i (by omega) (by omega)]
def CmpOk (c : X1.Cmp) (cb : Int → Int → Bool) (p : Int → Prop) : Prop := ∀ x y, p x → p y → ∃ t, c x y = some t ∧ (t < 0 ↔ cb x y = true)
section
variable {c : X1.Cmp} {cb : Int → Int → Bool} {p : Int → Prop} {n : Nat}
theorem CmpOk.yes (hc : CmpOk c cb p) {x y : Int} (hx : p x) (hy : p y) (e : cb x y = true) {β : Type} (A B : Option β) : ((c x y).bind fun t => if t < 0 then A else B) = A := by
  obtain ⟨t, ht, hi⟩ := hc x y hx hy
  rw [ht, Option.bind_some, if_pos (hi.2 e)]
theorem CmpOk.no (hc : CmpOk c cb p) {x y : Int} (hx : p x) (hy : p y) (e : ¬ cb x y = true) {β : Type} (A B : Option β) : ((c x y).bind fun t => if t < 0 then A else B) = B := by
  obtain ⟨t, ht, hi⟩ := hc x y hx hy
  rw [ht, Option.bind_some, if_neg (fun h => e (hi.1 h))]
theorem In.insJ {a : Nat} : ∀ (d : Nat) {l : List Int}, In p n l → a + d < n → In p n (insJ cb a d l)
  | 0, l, h, _ => h
  | d + 1, l, h, hd => by
    rw [S4.insJ]
    split
    · exact In.insJ d (h.swap (by omega) (by omega)) (by omega)
    · exact h
theorem In.insI {a : Nat} {l : List Int} (h : In p n l) : ∀ (r : Nat), a + r < n → In p n (insI cb a r l)
  | 0, _ => h
  | r + 1, hr => In.insJ (r + 1) (In.insI h r (by omega)) hr
theorem insJ_ev (hc : CmpOk c cb p) (hn : n ≤ 1000) (a : Nat) (b i : Int) : ∀ (d j : Nat) (l R : List Int), j = a + d → In p n l → a + d < n → Ev (fun k => SB.slices_insertionSortCmpFunc_int.l0 k (insJ cb a d l) a b c (wrap64 (i + 1))) R → Ev (fun k => SB.slices_insertionSortCmpFunc_int.l1 k l a b c i (j : Int)) R
  | 0, j, l, R, e, h, hd, hr => Ev.step (fun k => by
      simp only [SB.slices_insertionSortCmpFunc_int.l1]
      rw [if_neg (by omega)]
      rfl) hr
  | d + 1, j, l, R, e, h, hd, hr => by
    obtain rfl : j = a + d + 1 := by omega
    rw [S4.insJ] at hr
    have hl := h.1
    by_cases g : cb (l.getD (a + d + 1) default) (l.getD (a + d) default) = true
    · rw [if_pos g] at hr
      refine Ev.step (f := fun k => SB.slices_insertionSortCmpFunc_int.l1 k (swap1 l (a + d + 1) (a + d)) a b c i ((a + d : Nat) : Int)) (fun k => ?_) (insJ_ev hc hn a b i d (a + d) _ R rfl (h.swap (by omega) (by omega)) (by omega) hr)
      simp only [SB.slices_insertionSortCmpFunc_int.l1]
      rw [if_pos (by omega), if_pos (by omega), if_pos (by omega), wpre (a + d) (by omega), if_pos (by omega), if_pos (by omega), swap_set, rdd, rdd, hc.yes (h.get (by omega)) (h.get (by omega)) g]
    · rw [if_neg g] at hr
      refine Ev.step (fun k => ?_) hr
      simp only [SB.slices_insertionSortCmpFunc_int.l1]
      rw [if_pos (by omega), if_pos (by omega), if_pos (by omega), wpre (a + d) (by omega), if_pos (by omega), if_pos (by omega), rdd, rdd, hc.no (h.get (by omega)) (h.get (by omega)) g]
theorem ins_ev (hc : CmpOk c cb p) (hn : n ≤ 1000) (l : List Int) (h : In p n l) (a b : Nat) (hab : a ≤ b) (hb : b ≤ n) : Ev (fun k => SB.slices_insertionSortCmpFunc_int.f k l a b c) (insSort cb l a b) := by
  unfold SB.slices_insertionSortCmpFunc_int.f insSort
  have key : ∀ (d r : Nat), b - (a + r + 1) = d → a + r + 1 ≤ b → Ev (fun k => SB.slices_insertionSortCmpFunc_int.l0 k (insI cb a r l) a b c ((a + r + 1 : Nat) : Int)) (insI cb a (b - a - 1) l) := by
    intro d
    induction d with
    | zero =>
      intro r hd hr
      have e : b - a - 1 = r := by omega
      rw [e]
      exact Ev_one fun k => by
        simp only [SB.slices_insertionSortCmpFunc_int.l0]
        rw [if_neg (by omega)]
    | succ d ih =>
      intro r hd hr
      have hi := h.insI (cb := cb) (a := a) r (by omega)
      refine Ev.step (f := fun k => SB.slices_insertionSortCmpFunc_int.l1 k (insI cb a r l) a b c ((a + r + 1 : Nat) : Int) ((a + r + 1 : Nat) : Int)) (fun k => ?_) (insJ_ev hc hn a b _ (r + 1) (a + r + 1) _ _ (by omega) hi (by omega) ?_)
      · simp only [SB.slices_insertionSortCmpFunc_int.l0]
        rw [if_pos (by omega)]
      · rw [wone (a + r + 1) (by omega)]
        exact ih (r + 1) (by omega) (by omega)
  by_cases g : a + 1 ≤ b
  · rw [wone a (by omega)]
    exact key _ 0 rfl (by omega)
  · have e : b - a - 1 = 0 := by omega
    rw [e, wone a (by omega)]
    exact Ev_one fun k => by
      simp only [SB.slices_insertionSortCmpFunc_int.l0]
      rw [if_neg (by omega)]
      rfl
theorem In.insSort {l : List Int} (h : In p n l) (a b : Nat) (hab : a < b ∨ b ≤ a ∧ a < n) (hb : b ≤ n) : In p n (insSort cb l a b) := by
  unfold S4.insSort
  exact h.insI _ (by omega)
theorem bs_range (P : Nat → Bool) : ∀ (k s r : Nat), s ≤ r → s ≤ bs P k s r ∧ bs P k s r ≤ r
  | 0, s, r, h => ⟨Nat.le_refl _, h⟩
  | k + 1, s, r, h => by
    rw [bs]
    split
    · split
      · have := bs_range P k ((s + r) / 2 + 1) r (by omega)
        omega
      · have := bs_range P k s ((s + r) / 2) (by omega)
        omega
    · omega
theorem In.up {l : List Int} (h : In p n l) : ∀ (d q : Nat), q + d < n → In p n (up l q d)
  | 0, _, _ => h
  | d + 1, q, hq => In.up (h.swap (i := q) (j := q + 1) (by omega) (by omega)) d (q + 1) (by omega)
theorem In.down {l : List Int} (h : In p n l) : ∀ (d q : Nat), q < n → d ≤ q → In p n (down l q d)
  | 0, _, _, _ => h
  | d + 1, q, hq, hd => In.down (h.swap (i := q) (j := q - 1) (by omega) (by omega)) d (q - 1) (by omega) (by omega)
theorem up_ev (hn : n ≤ 1000) (i : Nat) : ∀ (d q : Nat) (l : List Int), i = q + 1 + d → In p n l → i ≤ n → Ev (fun k => SB.slices_symMergeCmpFunc_int.l1 k l i q) (up l q d)
  | 0, q, l, e, h, hi => Ev_one fun k => by
      simp only [SB.slices_symMergeCmpFunc_int.l1]
      rw [e, wpre q (by omega), if_neg (by omega)]
      rfl
  | d + 1, q, l, e, h, hi => by
    have hl := h.1
    refine Ev.step (f := fun k => SB.slices_symMergeCmpFunc_int.l1 k (swap1 l q (q + 1)) i ((q + 1 : Nat) : Int)) (fun k => ?_) (up_ev hn i d (q + 1) _ (by omega) (h.swap (by omega) (by omega)) hi)
    obtain ⟨i', rfl⟩ : ∃ i', i = i' + 1 := ⟨i - 1, by omega⟩
    simp only [SB.slices_symMergeCmpFunc_int.l1]
    rw [wpre i' (by omega), if_pos (by omega), wone q (by omega), if_pos (by omega), if_pos (by omega), if_pos (by omega), if_pos (by omega), swap_set]
theorem down_ev (hn : n ≤ 1000) (i : Nat) : ∀ (d q : Nat) (l : List Int), q = i + d → In p n l → q < n → Ev (fun k => SB.slices_symMergeCmpFunc_int.l3 k l i q) (down l q d)
  | 0, q, l, e, h, hi => Ev_one fun k => by
      simp only [SB.slices_symMergeCmpFunc_int.l3]
      rw [if_neg (by omega)]
      rfl
  | d + 1, q, l, e, h, hi => by
    have hl := h.1
    obtain ⟨q', rfl⟩ : ∃ q', q = q' + 1 := ⟨q - 1, by omega⟩
    refine Ev.step (f := fun k => SB.slices_symMergeCmpFunc_int.l3 k (swap1 l (q' + 1) q') i (q' : Int)) (fun k => ?_) (down_ev hn i d q' _ (by omega) (h.swap (by omega) (by omega)) (by omega))
    simp only [SB.slices_symMergeCmpFunc_int.l3]
    rw [if_pos (by omega), wpre q' (by omega), if_pos (by omega), if_pos (by omega), if_pos (by omega), if_pos (by omega), swap_set]
theorem srch0 (hc : CmpOk c cb p) (hn : n ≤ 1000) (l R : List Int) (a : Nat) (h : In p n l) (ha : a < n) : ∀ (f s r : Nat), r - s ≤ f → s ≤ r → r ≤ n →
    Ev (fun k => SB.slices_symMergeCmpFunc_int.l1 k l ((bs (fun q => cb (l.getD q default) (l.getD a default)) f s r : Nat) : Int) a) R → Ev (fun k => SB.slices_symMergeCmpFunc_int.l0 k l a c s r) R
  | 0, s, r, hf, hs, hr, hR => Ev.step (fun k => by
      simp only [SB.slices_symMergeCmpFunc_int.l0]
      rw [if_neg (by omega)]
      rfl) hR
  | f + 1, s, r, hf, hs, hr, hR => by
    have hl := h.1
    rw [bs] at hR
    by_cases g : s < r
    · rw [if_pos g] at hR
      by_cases e : cb (l.getD ((s + r) / 2) default) (l.getD a default) = true
      · rw [if_pos e] at hR
        refine Ev.step (fun k => ?_) (srch0 hc hn l R a h ha f ((s + r) / 2 + 1) r (by omega) (by omega) hr hR)
        simp only [SB.slices_symMergeCmpFunc_int.l0]
        rw [if_pos (by omega), half s r (by omega), if_pos (by omega), if_pos (by omega), if_pos (by omega), if_pos (by omega), rdd, rdd, hc.yes (h.get (by omega)) (h.get ha) e, wone _ (by omega)]
      · rw [if_neg e] at hR
        refine Ev.step (fun k => ?_) (srch0 hc hn l R a h ha f s ((s + r) / 2) (by omega) (by omega) (by omega) hR)
        simp only [SB.slices_symMergeCmpFunc_int.l0]
        rw [if_pos (by omega), half s r (by omega), if_pos (by omega), if_pos (by omega), if_pos (by omega), if_pos (by omega), rdd, rdd, hc.no (h.get (by omega)) (h.get ha) e]
    · rw [if_neg g] at hR
      refine Ev.step (fun k => ?_) hR
      simp only [SB.slices_symMergeCmpFunc_int.l0]
      rw [if_neg (by omega)]
theorem srch2 (hc : CmpOk c cb p) (hn : n ≤ 1000) (l R : List Int) (m : Nat) (h : In p n l) (hm : m < n) : ∀ (f s r : Nat), r - s ≤ f → s ≤ r → r ≤ n →
    Ev (fun k => SB.slices_symMergeCmpFunc_int.l3 k l ((bs (fun q => !cb (l.getD m default) (l.getD q default)) f s r : Nat) : Int) m) R → Ev (fun k => SB.slices_symMergeCmpFunc_int.l2 k l m c s r) R
  | 0, s, r, hf, hs, hr, hR => Ev.step (fun k => by
      simp only [SB.slices_symMergeCmpFunc_int.l2]
      rw [if_neg (by omega)]
      rfl) hR
  | f + 1, s, r, hf, hs, hr, hR => by
    have hl := h.1
    rw [bs] at hR
    by_cases g : s < r
    · rw [if_pos g] at hR
      by_cases e : cb (l.getD m default) (l.getD ((s + r) / 2) default) = true
      · rw [if_neg (by rw [e]; decide)] at hR
        refine Ev.step (fun k => ?_) (srch2 hc hn l R m h hm f s ((s + r) / 2) (by omega) (by omega) (by omega) hR)
        simp only [SB.slices_symMergeCmpFunc_int.l2]
        rw [if_pos (by omega), half s r (by omega), if_pos (by omega), if_pos (by omega), if_pos (by omega), if_pos (by omega), rdd, rdd, hc.yes (h.get hm) (h.get (by omega)) e]
      · rw [if_pos (by rw [Bool.eq_false_iff.2 e]; decide)] at hR
        refine Ev.step (fun k => ?_) (srch2 hc hn l R m h hm f ((s + r) / 2 + 1) r (by omega) (by omega) hr hR)
        simp only [SB.slices_symMergeCmpFunc_int.l2]
        rw [if_pos (by omega), half s r (by omega), if_pos (by omega), if_pos (by omega), if_pos (by omega), if_pos (by omega), rdd, rdd, hc.no (h.get hm) (h.get (by omega)) e, wone _ (by omega)]
    · rw [if_neg g] at hR
      refine Ev.step (fun k => ?_) hR
      simp only [SB.slices_symMergeCmpFunc_int.l2]
      rw [if_neg (by omega)]
theorem srch4 (hc : CmpOk c cb p) (hn : n ≤ 1000) (l R : List Int) (a m b mid N P : Nat) (h : In p n l) (hP : P ≤ 2000) : ∀ (f s r : Nat), r - s ≤ f → s ≤ r → r ≤ n → (∀ q, s ≤ q → q < r → q ≤ P ∧ P - q < n) →
    (∀ t, t = bs (fun q => !cb (l.getD (P - q) default) (l.getD q default)) f s r → Ev (fun k => if (t : Int) < (m : Int) then (SB.slices_symMergeCmpFunc_int.j6 k l a m b c mid t (wrap64 ((N : Int) - (t : Int))) (decide ((m : Int) < (wrap64 ((N : Int) - (t : Int)))))) else (SB.slices_symMergeCmpFunc_int.j6 k l a m b c mid t (wrap64 ((N : Int) - (t : Int))) false)) R) → Ev (fun k => SB.slices_symMergeCmpFunc_int.l4 k l a m b c mid N s r P) R
  | 0, s, r, hf, hs, hr, hq, hR => Ev.step (fun k => by
      simp only [SB.slices_symMergeCmpFunc_int.l4]
      rw [if_neg (by omega)]) (hR s rfl)
  | f + 1, s, r, hf, hs, hr, hq, hR => by
    have hl := h.1
    rw [bs] at hR
    by_cases g : s < r
    · rw [if_pos g] at hR
      have hh := hq ((s + r) / 2) (by omega) (by omega)
      by_cases e : cb (l.getD (P - (s + r) / 2) default) (l.getD ((s + r) / 2) default) = true
      · rw [if_neg (by rw [e]; decide)] at hR
        refine Ev.step (fun k => ?_) (srch4 hc hn l R a m b mid N P h hP f s ((s + r) / 2) (by omega) (by omega) (by omega) (fun q h1 h2 => hq q h1 (by omega)) hR)
        simp only [SB.slices_symMergeCmpFunc_int.l4]
        rw [if_pos (by omega), half s r (by omega), wsub P _ hh.1 (by omega), if_pos (by omega), if_pos (by omega), if_pos (by omega), if_pos (by omega), rdd, rdd, hc.yes (h.get hh.2) (h.get (by omega)) e]
      · rw [if_pos (by rw [Bool.eq_false_iff.2 e]; decide)] at hR
        refine Ev.step (fun k => ?_) (srch4 hc hn l R a m b mid N P h hP f ((s + r) / 2 + 1) r (by omega) (by omega) hr (fun q h1 h2 => hq q (by omega) h2) hR)
        simp only [SB.slices_symMergeCmpFunc_int.l4]
        rw [if_pos (by omega), half s r (by omega), wsub P _ hh.1 (by omega), if_pos (by omega), if_pos (by omega), if_pos (by omega), if_pos (by omega), rdd, rdd, hc.no (h.get hh.2) (h.get (by omega)) e, wone _ (by omega)]
    · rw [if_neg g] at hR
      refine Ev.step (fun k => ?_) (hR s rfl)
      simp only [SB.slices_symMergeCmpFunc_int.l4]
      rw [if_neg (by omega)]
end
end Go.Proofs.Ytomanpmffjkkgaa.S5
namespace Go.Proofs.Ytomanpmffjkkgaa.S6
open Go Go.RowKit Go.Proofs.Ytomanpmffjkkgaa Go.Proofs.YtomanpmffjkkgaaW.PrintWords Go.Proofs.Ytomanpmffjkkgaa.EV Go.Proofs.Ytomanpmffjkkgaa.S2 Go.Proofs.Ytomanpmffjkkgaa.S3 Go.Proofs.Ytomanpmffjkkgaa.S4 Go.Proofs.Ytomanpmffjkkgaa.S5
section
variable {c : X1.Cmp} {cb : Int → Int → Bool} {p : Int → Prop} {n : Nat}
def last2 (cb : Int → Int → Bool) (K : Nat) (l : List Int) (a s mid e b : Nat) : List Int :=
  let l2 := if a < s ∧ s < mid then symM cb K l a s mid else l
  if mid < e ∧ e < b then symM cb K l2 mid e b else l2
theorem j8_ev (K : Nat) (ih : ∀ (l : List Int) (a m b : Nat), In p n l → b - a ≤ K → a < m → m < b → b ≤ n → In p n (symM cb K l a m b) ∧ Ev (fun k => SB.slices_symMergeCmpFunc_int.f k l a m b c) (symM cb K l a m b))
    (l : List Int) (h : In p n l) (a s mid e b : Nat) (h1 : mid - a ≤ K) (h2 : b - mid ≤ K) (h3 : b ≤ n) (h4 : mid ≤ n) :
    In p n (last2 cb K l a s mid e b) ∧ Ev (fun k => SB.slices_symMergeCmpFunc_int.j7 k l a b c mid s e) (last2 cb K l a s mid e b) := by
  have tail : ∀ l2 : List Int, In p n l2 → In p n (if mid < e ∧ e < b then symM cb K l2 mid e b else l2) ∧
      Ev (fun k => if (mid : Int) < (e : Int) then (if (e : Int) < (b : Int) then ((SB.slices_symMergeCmpFunc_int.f k l2 mid e b c).bind fun t => some t) else some l2) else some l2) (if mid < e ∧ e < b then symM cb K l2 mid e b else l2) := by
    intro l2 hl2
    by_cases g : mid < e
    · by_cases g2 : e < b
      · rw [if_pos ⟨g, g2⟩]
        have := ih l2 mid e b hl2 h2 g g2 h3
        exact ⟨this.1, Ev.congr (fun k => by rw [if_pos (by omega), if_pos (by omega)]) (Ev_bind this.2 (Ev.now _))⟩
      · rw [if_neg (fun x => g2 x.2)]
        exact ⟨hl2, Ev_all_k fun k => by rw [if_pos (by omega), if_neg (by omega)]⟩
    · rw [if_neg (fun x => g x.1)]
      exact ⟨hl2, Ev_all_k fun k => by rw [if_neg (by omega)]⟩
  unfold last2
  dsimp only
  by_cases g : a < s ∧ s < mid
  · rw [if_pos g]
    have h5 := ih l a s mid h h1 g.1 g.2 h4
    have t := tail _ h5.1
    refine ⟨t.1, ?_⟩
    refine Ev.step (f := fun k => SB.slices_symMergeCmpFunc_int.j8 k l a b c mid s e true) (fun k => ?_) (Ev.step (f := fun k => (SB.slices_symMergeCmpFunc_int.f k l a s mid c).bind fun t234 => (if (mid : Int) < (e : Int) then (if (e : Int) < (b : Int) then ((SB.slices_symMergeCmpFunc_int.f k t234 mid e b c).bind fun t => some t) else some t234) else some t234)) (fun k => ?_) (Ev_bind h5.2 t.2))
    · simp only [SB.slices_symMergeCmpFunc_int.j7]
      rw [if_pos (by omega), decide_eq_true (by omega : (s : Int) < (mid : Int))]
    · simp only [SB.slices_symMergeCmpFunc_int.j8]
      rw [if_pos trivial]
  · rw [if_neg g]
    have t := tail _ h
    refine ⟨t.1, ?_⟩
    refine Ev.step (f := fun k => SB.slices_symMergeCmpFunc_int.j8 k l a b c mid s e false) (fun k => ?_) (Ev.step (f := fun k => (if (mid : Int) < (e : Int) then (if (e : Int) < (b : Int) then ((SB.slices_symMergeCmpFunc_int.f k l mid e b c).bind fun t => some t) else some l) else some l)) (fun k => ?_) t.2)
    · simp only [SB.slices_symMergeCmpFunc_int.j7]
      by_cases q : a < s
      · rw [if_pos (by omega), decide_eq_false (by omega : ¬ (s : Int) < (mid : Int))]
      · rw [if_neg (by omega)]
    · simp only [SB.slices_symMergeCmpFunc_int.j8]
      rw [if_neg (by decide)]
theorem symM_ev (hc : CmpOk c cb p) (hn : n ≤ 1000) : ∀ (K : Nat) (l : List Int) (a m b : Nat), In p n l → b - a ≤ K → a < m → m < b → b ≤ n → In p n (symM cb K l a m b) ∧ Ev (fun k => SB.slices_symMergeCmpFunc_int.f k l a m b c) (symM cb K l a m b)
  | 0, l, a, m, b, h, hk, h1, h2, h3 => by omega
  | K + 1, l, a, m, b, h, hk, h1, h2, h3 => by
    have hl := h.1
    rw [symM]
    by_cases e1 : m - a = 1
    · rw [if_pos e1]
      have hr := bs_range (fun q => cb (l.getD q default) (l.getD a default)) (b - m) m b (by omega)
      refine ⟨h.up _ _ (by omega), ?_⟩
      refine Ev.step (f := fun k => SB.slices_symMergeCmpFunc_int.l0 k l a c m b) (fun k => ?_) (srch0 hc hn l _ a h (by omega) (b - m) m b (by omega) (by omega) h3 (up_ev hn _ _ a l (by omega) h (by omega)))
      simp only [SB.slices_symMergeCmpFunc_int.f]
      rw [if_pos (by rw [wsub m a (by omega) (by omega)]; omega)]
    · rw [if_neg e1]
      by_cases e2 : b - m = 1
      · rw [if_pos e2]
        have hr := bs_range (fun q => !cb (l.getD m default) (l.getD q default)) (m - a) a m (by omega)
        refine ⟨h.down _ _ (by omega) (by omega), ?_⟩
        refine Ev.step (f := fun k => SB.slices_symMergeCmpFunc_int.l2 k l m c a m) (fun k => ?_) (srch2 hc hn l _ m h (by omega) (m - a) a m (by omega) (by omega) (by omega) (down_ev hn _ _ m l (by omega) h (by omega)))
        simp only [SB.slices_symMergeCmpFunc_int.f]
        rw [if_neg (by rw [wsub m a (by omega) (by omega)]; omega), if_pos (by rw [wsub b m (by omega) (by omega)]; omega)]
      · rw [if_neg e2]
        dsimp only
        obtain ⟨mid, hmid⟩ : ∃ mid, mid = (a + b) / 2 := ⟨_, rfl⟩
        rw [← hmid]
        obtain ⟨s0, hs0⟩ : ∃ s0, s0 = (if m > mid then mid + m - b else a) := ⟨_, rfl⟩
        obtain ⟨r0, hr0⟩ : ∃ r0, r0 = (if m > mid then mid else m) := ⟨_, rfl⟩
        rw [← hs0, ← hr0]
        have b0 : s0 ≤ r0 ∧ r0 ≤ m ∧ r0 ≤ mid ∧ a ≤ s0 ∧ mid + m - s0 ≤ b ∧ r0 - s0 ≤ b - a ∧ (∀ q, s0 ≤ q → q < r0 → q ≤ mid + m - 1 ∧ mid + m - 1 - q < n) := by
          by_cases g : m > mid
          · rw [if_pos g] at hs0 hr0
            exact ⟨by omega, by omega, by omega, by omega, by omega, by omega, fun q q1 q2 => by omega⟩
          · rw [if_neg g] at hs0 hr0
            exact ⟨by omega, by omega, by omega, by omega, by omega, by omega, fun q q1 q2 => by omega⟩
        obtain ⟨b1, b2, b3, b4, b5, b6, b7⟩ := b0
        have hr := bs_range (fun q => !cb (l.getD (mid + m - 1 - q) default) (l.getD q default)) (b - a) s0 r0 b1
        obtain ⟨s, hs⟩ : ∃ s, s = bs (fun q => !cb (l.getD (mid + m - 1 - q) default) (l.getD q default)) (b - a) s0 r0 := ⟨_, rfl⟩
        rw [← hs] at hr ⊢
        have ih := fun (l : List Int) (a m b : Nat) => symM_ev hc hn K l a m b
        -- the rotation
        have rotp : In p n (if s < m ∧ m < mid + m - s then rot l m (b - a) (m - s) (mid - s) else l) ∧ ∀ R, Ev (fun k => SB.slices_symMergeCmpFunc_int.j7 k (if s < m ∧ m < mid + m - s then rot l m (b - a) (m - s) (mid - s) else l) a b c mid s ((mid + m - s : Nat) : Int)) R →
            Ev (fun k => if (s : Int) < (m : Int) then (SB.slices_symMergeCmpFunc_int.j6 k l a m b c mid s (wrap64 (((mid + m : Nat) : Int) - (s : Int))) (decide ((m : Int) < (wrap64 (((mid + m : Nat) : Int) - (s : Int)))))) else (SB.slices_symMergeCmpFunc_int.j6 k l a m b c mid s (wrap64 (((mid + m : Nat) : Int) - (s : Int))) false)) R := by
          rw [wsub (mid + m) s (by omega) (by omega)]
          by_cases g : s < m ∧ m < mid + m - s
          · rw [if_pos g]
            have hrot := rot_ev hn 0 (b - a) l m (m - s) (mid - s) h (by omega) (by omega) (by omega) (by omega) (by omega)
            refine ⟨hrot.1, fun R hR => ?_⟩
            refine Ev.congr (f := fun k => SB.slices_symMergeCmpFunc_int.j6 k l a m b c mid s ((mid + m - s : Nat) : Int) true) (fun k => ?_) (Ev.step (f := fun k => (SB.slices_rotateCmpFunc_int.f k l s m ((mid + m - s : Nat) : Int) 0).bind fun t233 => SB.slices_symMergeCmpFunc_int.j7 k t233 a b c mid s ((mid + m - s : Nat) : Int)) (fun k => ?_) (Ev_bind ?_ hR))
            · rw [if_pos (by omega), decide_eq_true (by omega : (m : Int) < ((mid + m - s : Nat) : Int))]
            · simp only [SB.slices_symMergeCmpFunc_int.j6]
              rw [if_pos trivial]
            · unfold SB.slices_rotateCmpFunc_int.f
              rw [wsub m s (by omega) (by omega), wsub (mid + m - s) m (by omega) (by omega), show mid + m - s - m = mid - s by omega]
              exact hrot.2
          · rw [if_neg g]
            refine ⟨h, fun R hR => ?_⟩
            refine Ev.congr (f := fun k => SB.slices_symMergeCmpFunc_int.j6 k l a m b c mid s ((mid + m - s : Nat) : Int) false) (fun k => ?_) (Ev.step (fun k => ?_) hR)
            · by_cases q : s < m
              · rw [if_pos (by omega), decide_eq_false (by omega : ¬ (m : Int) < ((mid + m - s : Nat) : Int))]
              · rw [if_neg (by omega)]
            · simp only [SB.slices_symMergeCmpFunc_int.j6]
              rw [if_neg (by decide)]
        have fin := j8_ev (c := c) K ih _ rotp.1 a s mid (mid + m - s) b (by omega) (by omega) h3 (by omega)
        refine ⟨fin.1, ?_⟩
        refine Ev.step (f := fun k => SB.slices_symMergeCmpFunc_int.j4 k l a m b c mid ((mid + m : Nat) : Int) s0 r0) (fun k => ?_) (Ev.step (f := fun k => SB.slices_symMergeCmpFunc_int.l4 k l a m b c mid ((mid + m : Nat) : Int) s0 r0 ((mid + m - 1 : Nat) : Int)) (fun k => ?_) (srch4 hc hn l _ a m b mid (mid + m) (mid + m - 1) h (by omega) (b - a) s0 r0 b6 b1 (by omega) b7 (fun t ht => ?_)))
        · simp only [SB.slices_symMergeCmpFunc_int.f]
          rw [if_neg (by rw [wsub m a (by omega) (by omega)]; omega), if_neg (by rw [wsub b m (by omega) (by omega)]; omega), half a b (by omega), ← hmid, wadd mid m (by omega)]
          by_cases g : m > mid
          · rw [if_pos (by omega), wsub (mid + m) b (by omega) (by omega), hs0, hr0, if_pos g, if_pos g]
          · rw [if_neg (by omega), hs0, hr0, if_neg g, if_neg g]
        · simp only [SB.slices_symMergeCmpFunc_int.j4]
          have : wrap64 (((mid + m : Nat) : Int) - 1) = ((mid + m - 1 : Nat) : Int) := by unfold wrap64; omega
          rw [this]
        · obtain rfl : t = s := by rw [ht, hs]
          exact rotp.2 _ fin.2
theorem stb_ev (hc : CmpOk c cb p) (hn : n ≤ 40) (l : List Int) (h : In p n l) : Ev (fun k => SB.slices_stableCmpFunc_int.f k l (n : Int) c) (stb cb l n) := by
  have hn' : n ≤ 1000 := by omega
  unfold SB.slices_stableCmpFunc_int.f stb
  have e20 : wrap64 (20 + 20) = ((40 : Nat) : Int) := by unfold wrap64; omega
  have e40 : wrap64 (((40 : Nat) : Int) + 20) = ((60 : Nat) : Int) := by unfold wrap64; omega
  have e2 : wrap64 (2 * 20) = ((40 : Nat) : Int) := by unfold wrap64; omega
  have e3 : wrap64 (20 * 2) = ((40 : Nat) : Int) := by unfold wrap64; omega
  have e80 : wrap64 (((40 : Nat) : Int) + ((40 : Nat) : Int)) = ((80 : Nat) : Int) := by unfold wrap64; omega
  have e5 : wrap64 ((0 : Int) + 20) = ((20 : Nat) : Int) := by unfold wrap64; omega
  -- behind the blocks
  have done40 : ∀ l : List Int, Ev (fun k => SB.slices_stableCmpFunc_int.l1 k l (n : Int) c ((40 : Nat) : Int)) l := fun l => Ev_one fun k => by
    simp only [SB.slices_stableCmpFunc_int.l1]
    rw [if_neg (by omega)]
  by_cases h20 : n < 20
  · rw [if_pos h20]
    refine Ev.step (f := fun k => (SB.slices_insertionSortCmpFunc_int.f k l 0 n c).bind fun t => SB.slices_stableCmpFunc_int.l1 k t n c 20) (fun k => ?_) (Ev_bind (ins_ev hc hn' l h 0 n (by omega) (by omega)) (Ev_one fun k => ?_))
    · simp only [SB.slices_stableCmpFunc_int.l0]
      rw [if_neg (by omega)]
    · simp only [SB.slices_stableCmpFunc_int.l1]
      rw [if_neg (by omega)]
  · rw [if_neg h20]
    dsimp only
    have s1 := ins_ev hc hn' l h 0 20 (by omega) (by omega)
    have i1 := h.insSort (cb := cb) 0 20 (by omega) (by omega)
    refine Ev.step (f := fun k => (SB.slices_insertionSortCmpFunc_int.f k l 0 ((20 : Nat) : Int) c).bind fun t => SB.slices_stableCmpFunc_int.l0 k t n c 20 20 ((40 : Nat) : Int)) (fun k => ?_) (Ev_bind s1 ?_)
    · simp only [SB.slices_stableCmpFunc_int.l0]
      rw [if_pos (by omega), e20]
      rfl
    · by_cases h40 : n < 40
      · rw [if_pos h40]
        have s2 := ins_ev hc hn' _ i1 20 n (by omega) (by omega)
        refine Ev.step (f := fun k => (SB.slices_insertionSortCmpFunc_int.f k (insSort cb l 0 20) ((20 : Nat) : Int) n c).bind fun t => SB.slices_stableCmpFunc_int.l1 k t n c 20) (fun k => ?_) (Ev_bind s2 ?_)
        · simp only [SB.slices_stableCmpFunc_int.l0]
          rw [if_neg (by omega)]
          rfl
        · by_cases g : 20 < n
          · rw [if_pos g]
            have i2 := i1.insSort (cb := cb) 20 n (by omega) (by omega)
            have s3 := (symM_ev hc hn' n _ 0 20 n i2 (by omega) (by omega) (by omega) (by omega)).2
            refine Ev.step (f := fun k => SB.slices_stableCmpFunc_int.l2 k (insSort cb (insSort cb l 0 20) 20 n) n c 20 0 ((40 : Nat) : Int)) (fun k => ?_) (Ev.step (f := fun k => (SB.slices_symMergeCmpFunc_int.f k (insSort cb (insSort cb l 0 20) 20 n) ((0 : Nat) : Int) ((20 : Nat) : Int) n c).bind fun t => SB.slices_stableCmpFunc_int.l1 k t n c ((40 : Nat) : Int)) (fun k => ?_) (Ev_bind s3 (done40 _)))
            · simp only [SB.slices_stableCmpFunc_int.l1]
              rw [if_pos (by omega), e2]
            · simp only [SB.slices_stableCmpFunc_int.l2]
              rw [if_neg (by omega), e5, if_pos (by omega), e3]
              rfl
          · rw [if_neg g]
            exact Ev_one fun k => by
              simp only [SB.slices_stableCmpFunc_int.l1]
              rw [if_neg (by omega)]
      · rw [if_neg h40]
        obtain rfl : n = 40 := by omega
        have s2 := ins_ev hc hn' _ i1 20 40 (by omega) (by omega)
        have i2 := i1.insSort (cb := cb) 20 40 (by omega) (by omega)
        have s3 := ins_ev hc hn' _ i2 40 40 (by omega) (by omega)
        have i3 : In p 40 (insSort cb (insSort cb (insSort cb l 0 20) 20 40) 40 40) := i2
        have s4 := (symM_ev hc hn' 40 _ 0 20 40 i3 (by omega) (by omega) (by omega) (by omega)).2
        refine Ev.step (f := fun k => (SB.slices_insertionSortCmpFunc_int.f k (insSort cb l 0 20) ((20 : Nat) : Int) ((40 : Nat) : Int) c).bind fun t => SB.slices_stableCmpFunc_int.l0 k t ((40 : Nat) : Int) c 20 ((40 : Nat) : Int) ((60 : Nat) : Int)) (fun k => ?_) (Ev_bind s2 ?_)
        · simp only [SB.slices_stableCmpFunc_int.l0]
          rw [if_pos (by omega), e40]
          rfl
        · refine Ev.step (f := fun k => (SB.slices_insertionSortCmpFunc_int.f k (insSort cb (insSort cb l 0 20) 20 40) ((40 : Nat) : Int) ((40 : Nat) : Int) c).bind fun t => SB.slices_stableCmpFunc_int.l1 k t ((40 : Nat) : Int) c 20) (fun k => ?_) (Ev_bind s3 ?_)
          · simp only [SB.slices_stableCmpFunc_int.l0]
            rw [if_neg (by omega)]
          · refine Ev.step (f := fun k => SB.slices_stableCmpFunc_int.l2 k (insSort cb (insSort cb (insSort cb l 0 20) 20 40) 40 40) ((40 : Nat) : Int) c 20 0 ((40 : Nat) : Int)) (fun k => ?_) (Ev.step (f := fun k => (SB.slices_symMergeCmpFunc_int.f k (insSort cb (insSort cb (insSort cb l 0 20) 20 40) 40 40) ((0 : Nat) : Int) ((20 : Nat) : Int) ((40 : Nat) : Int) c).bind fun t => SB.slices_stableCmpFunc_int.l2 k t ((40 : Nat) : Int) c 20 ((40 : Nat) : Int) ((80 : Nat) : Int)) (fun k => ?_) (Ev_bind s4 (Ev.step (fun k => ?_) (done40 _))))
            · simp only [SB.slices_stableCmpFunc_int.l1]
              rw [if_pos (by omega), e2]
            · simp only [SB.slices_stableCmpFunc_int.l2]
              rw [if_pos (by omega), e5, e2, e80]
              rfl
            · simp only [SB.slices_stableCmpFunc_int.l2]
              rw [if_neg (by omega), e40, if_neg (by omega), e3]
end
end Go.Proofs.Ytomanpmffjkkgaa.S6
namespace Go.Proofs.Ytomanpmffjkkgaa.S7
open Go Go.RowKit Go.Proofs.YtomanpmffjkkgaaW.PrintWords Go.Proofs.Ytomanpmffjkkgaa.EV Go.Proofs.Ytomanpmffjkkgaa.S4
def idx (n : Nat) : List Int := (List.range n).map fun i : Nat => (i : Int)
theorem idx_succ (n : Nat) : idx (n + 1) = idx n ++ [(n : Int)] := by unfold idx; rw [List.range_succ, List.map_append]; rfl
theorem idx_length (n : Nat) : (idx n).length = n := by unfold idx; rw [List.length_map, List.length_range]
theorem mem_idx {n : Nat} {x : Int} : x ∈ idx n ↔ 0 ≤ x ∧ x < n := by
  unfold idx
  rw [List.mem_map]
  constructor
  · rintro ⟨a, ha, rfl⟩
    rw [List.mem_range] at ha
    omega
  · intro h
    exact ⟨x.toNat, by rw [List.mem_range]; omega, by omega⟩
theorem idx_asc (n : Nat) : (idx n).Pairwise (fun x y => x < y) := by
  unfold idx
  rw [List.pairwise_map]
  exact List.Pairwise.imp (fun h => by omega) List.pairwise_lt_range
section
variable (f : Int → Int)
def lt (a b : Int) : Prop := f b < f a ∨ (f a = f b ∧ a < b)
instance : DecidableRel (lt f) := fun a b => by unfold lt; exact inferInstance
def cb (a b : Int) : Bool := decide (f b < f a)
theorem lt_trans {x y z : Int} (h : lt f x y) (h' : lt f y z) : lt f x z := by unfold lt at *; omega
theorem lt_total {x y : Int} (h : x < y) : lt f y x ∨ lt f x y := by unfold lt; omega
theorem lt_not {x y : Int} (h : lt f x y) (h' : lt f y x) : False := by unfold lt at *; omega
def ord (n : Nat) : List Int := stb (cb f) (idx n) n
theorem ord_ok {n : Nat} (hn : n ≤ 40) : (ord f n).Perm (idx n) ∧ (ord f n).Pairwise (lt f) := by
  have h := stb_ok (lt f) (cb f) (fun a b => lt_trans f a b) (idx n) (by rw [idx_length]; exact hn)
    ((idx_asc n).imp fun h => lt_total f h)
    ((idx_asc n).imp fun {a b} h => by
      unfold cb lt
      rw [decide_eq_true_iff]
      omega)
  rw [idx_length] at h
  exact h
theorem ord_unique {n : Nat} (hn : n ≤ 40) {l : List Int} (hp : l.Perm (idx n)) (hl : l.Pairwise (lt f)) : l = ord f n := by
  have h := ord_ok f hn
  have key : ∀ (a b : List Int), a.Perm b → a.Pairwise (lt f) → b.Pairwise (lt f) → a = b := by
    intro a
    induction a with
    | nil => intro b hp _ _; exact (List.nil_perm.1 hp).symm
    | cons x a ih =>
      intro b hp ha hb
      cases b with
      | nil => exact absurd hp.length_eq (by simp)
      | cons y b =>
        have ha' := List.pairwise_cons.1 ha
        have hb' := List.pairwise_cons.1 hb
        have e : x = y := by
          apply Classical.byContradiction
          intro hne
          have hx : x ∈ b := by
            rcases List.mem_cons.1 (hp.mem_iff.1 (List.mem_cons_self ..)) with h | h
            · exact absurd h hne
            · exact h
          have hy : y ∈ a := by
            rcases List.mem_cons.1 (hp.mem_iff.2 (List.mem_cons_self ..)) with h | h
            · exact absurd h.symm hne
            · exact h
          exact lt_not f (ha'.1 y hy) (hb'.1 x hx)
        subst e
        rw [ih b ((List.perm_cons x).1 hp) ha'.2 hb'.2]
  exact key l (ord f n) (hp.trans h.1.symm) hl h.2
def pos (r : Int) (out : List Int) : Nat → Nat
  | 0 => 0
  | k + 1 => if f (out.getD k 0) < r then pos r out k else k + 1
theorem pos_ok (r : Int) (out : List Int) : ∀ k, pos f r out k ≤ k ∧ (∀ j, pos f r out k ≤ j → j < k → f (out.getD j 0) < r) ∧ (0 < pos f r out k → ¬ f (out.getD (pos f r out k - 1) 0) < r)
  | 0 => ⟨Nat.le_refl _, fun j h1 h2 => by omega, fun h => by simp [pos] at h⟩
  | k + 1 => by
    unfold pos
    by_cases h : f (out.getD k 0) < r
    · rw [if_pos h]
      obtain ⟨h1, h2, h3⟩ := pos_ok r out k
      refine ⟨by omega, fun j g1 g2 => ?_, h3⟩
      by_cases e : j = k
      · rw [e]; exact h
      · exact h2 j g1 (by omega)
    · rw [if_neg h]
      exact ⟨Nat.le_refl _, fun j g1 g2 => by omega, fun _ => h⟩
def ins (i : Int) (out : List Int) : List Int := out.take (pos f (f i) out out.length) ++ [i] ++ out.drop (pos f (f i) out out.length)
theorem ins_perm (i : Int) (out : List Int) : (ins f i out).Perm (out ++ [i]) := by
  unfold ins
  rw [List.append_assoc, List.singleton_append]
  refine List.perm_middle.trans ?_
  rw [List.take_append_drop]
  exact (List.perm_append_singleton i out).symm
theorem ins_pw (i : Int) (out : List Int) (h : out.Pairwise (lt f)) (hi : ∀ x ∈ out, x < i) : (ins f i out).Pairwise (lt f) := by
  obtain ⟨p1, p2, p3⟩ := pos_ok f (f i) out out.length
  unfold ins
  generalize pos f (f i) out out.length = q at *
  have hs := List.pairwise_append.1 (show (out.take q ++ out.drop q).Pairwise (lt f) by rw [List.take_append_drop]; exact h)
  have hB : ∀ y ∈ out.drop q, lt f i y := by
    intro y hy
    obtain ⟨j, hj, rfl⟩ := List.getElem_of_mem hy
    rw [List.length_drop] at hj
    have := p2 (q + j) (by omega) (by omega)
    rw [List.getD_eq_getElem?_getD, List.getElem?_eq_getElem (by omega : q + j < out.length)] at this
    left
    rw [List.getElem_drop]
    exact this
  have hA : ∀ x ∈ out.take q, lt f x i := by
    intro x hx
    obtain ⟨j, hj, rfl⟩ := List.getElem_of_mem hx
    rw [List.length_take] at hj
    have hq : 0 < q := by omega
    have hz := p3 hq
    rw [List.getD_eq_getElem?_getD, List.getElem?_eq_getElem (by omega : q - 1 < out.length)] at hz
    have hz' : ¬ f out[q - 1] < f i := hz
    have hm := hi out[j] (List.getElem_mem _)
    rw [List.getElem_take]
    have hr : f out[q - 1] ≤ f out[j] := by
      by_cases e : j = q - 1
      · subst e; exact Int.le_refl _
      · have := (List.pairwise_iff_getElem.1 h) j (q - 1) (by omega) (by omega) (by omega)
        unfold lt at this
        omega
    unfold lt
    omega
  rw [List.append_assoc, List.singleton_append]
  refine List.pairwise_append.2 ⟨hs.1, List.pairwise_cons.2 ⟨hB, hs.2.1⟩, fun x hx y hy => ?_⟩
  rcases List.mem_cons.1 hy with rfl | hy
  · exact hA x hx
  · exact hs.2.2 x hx y hy
def specO : Nat → List Int
  | 0 => []
  | i + 1 => ins f i (specO i)
theorem specO_ok : ∀ i, (specO f i).Perm (idx i) ∧ (specO f i).Pairwise (lt f)
  | 0 => ⟨List.Perm.refl _, List.Pairwise.nil⟩
  | i + 1 => by
    obtain ⟨h1, h2⟩ := specO_ok i
    refine ⟨?_, ins_pw f i _ h2 fun x hx => (mem_idx.1 (h1.mem_iff.1 hx)).2⟩
    rw [idx_succ]
    exact (ins_perm f i _).trans (h1.append_right _)
theorem specO_ord {n : Nat} (hn : n ≤ 40) : specO f n = ord f n := ord_unique f hn (specO_ok f n).1 (specO_ok f n).2
theorem ord_length {n : Nat} (hn : n ≤ 40) : (ord f n).length = n := by rw [(ord_ok f hn).1.length_eq, idx_length]
theorem specO_length (n : Nat) : (specO f n).length = n := by rw [(specO_ok f n).1.length_eq, idx_length]
theorem specO_mem {n : Nat} {x : Int} : x ∈ specO f n ↔ 0 ≤ x ∧ x < n := by rw [(specO_ok f n).1.mem_iff, mem_idx]
theorem ord_mem {n : Nat} (hn : n ≤ 40) {x : Int} : x ∈ ord f n ↔ 0 ≤ x ∧ x < n := by rw [(ord_ok f hn).1.mem_iff, mem_idx]
end
end Go.Proofs.Ytomanpmffjkkgaa.S7
namespace Go.Proofs.Ytomanpmffjkkgaa.W3
open Go Go.RowKit Go.Proofs.Ytomanpmffjkkgaa Go.Proofs.Ytomanpmffjkkgaa.P Go.Proofs.YtomanpmffjkkgaaW.PrintWords Go.Proofs.YtomanpmffjkkgaaW.PrintLast Go.Proofs.Ytomanpmffjkkgaa.EV Go.Proofs.Ytomanpmffjkkgaa.I1 Go.Proofs.Ytomanpmffjkkgaa.TI Go.Proofs.Ytomanpmffjkkgaa.W1 Go.Proofs.Ytomanpmffjkkgaa.W2 Go.Proofs.Ytomanpmffjkkgaa.S7
noncomputable def rm (t : Int) (l : List Int) (j : Int) : Int := (quota t l j).2.1
noncomputable def overP (t : Int) (l : List Int) (i : Nat) : List Int := (List.range i).map fun j : Nat => rm t l (j : Int)
section
variable (t : Int) (l : List Int)
theorem overP_succ (i : Nat) : overP t l (i + 1) = overP t l i ++ [rm t l (i : Int)] := by unfold overP; rw [List.range_succ, List.map_append]; rfl
theorem overP_length (i : Nat) : (overP t l i).length = i := by unfold overP; rw [List.length_map, List.length_range]
theorem rd_over (i : Nat) (x : Int) (h0 : 0 ≤ x) (h1 : x < i) : rd (overP t l i) x = rm t l x := by
  unfold rd overP
  rw [List.getD_eq_getElem?_getD, List.getElem?_map, List.getElem?_range (by omega)]
  show rm t l ((x.toNat : Nat) : Int) = _
  rw [Int.toNat_of_nonneg h0]
theorem cmp_ok (n : Nat) : S5.CmpOk (impl_ShareOrder.cmp (overP t l n)) (cb (rm t l)) (fun x => 0 ≤ x ∧ x < n) := by
  intro x y hx hy
  unfold impl_ShareOrder.cmp cb
  rw [overP_length, rd_over t l n x hx.1 hx.2, rd_over t l n y hy.1 hy.2, if_pos ⟨hx.1, hx.2, hy.1, hy.2⟩]
  refine ⟨_, rfl, ?_⟩
  rw [decide_eq_true_iff]
  by_cases h : rm t l y < rm t l x
  · rw [if_pos h]
    omega
  · rw [if_neg h]
    by_cases h2 : rm t l x < rm t l y
    · rw [if_pos h2]
      omega
    · rw [if_neg h2]
      omega
theorem order_i (hl : l.length ≤ 40) : ∀ (d i : Nat), l.length - i = d → i ≤ l.length → Ev (fun k => impl_ShareOrder.l0 k t l (idx i) (overP t l i) (l.length : Int) (i : Int)) (ord (rm t l) l.length) := by
  intro d
  induction d with
  | zero =>
    intro i hd hi
    obtain rfl : i = l.length := by omega
    refine Ev.step (f := fun k => SB.slices_stableCmpFunc_int.f k (idx l.length) ((l.length : Nat) : Int) (impl_ShareOrder.cmp (overP t l l.length))) (fun k => ?_) (S6.stb_ev (cmp_ok t l l.length) hl (idx l.length) ⟨idx_length _, fun e he => mem_idx.1 he⟩)
    simp only [impl_ShareOrder.l0]
    rw [if_neg (by omega), idx_length]
  | succ d ih =>
    intro i hd hi
    refine Ev.step (f := fun k => (impl_ShareQuota.f k t l (i : Int)).bind fun bt209 => (if (idx i).length < 17592186044416 then (if (overP t l i).length < 17592186044416 then (impl_ShareOrder.l0 k t l ((idx i) ++ [(i : Int)]) ((overP t l i) ++ [bt209.2.1]) (l.length : Int) (wrap64 ((i : Int) + 1))) else (none)) else (none))) (fun k => ?_) (Ev_bind (quota_i t l i) (Ev.congr (fun k => ?_) (ih (i + 1) (by omega) (by omega))))
    · simp only [impl_ShareOrder.l0]
      rw [if_pos (by omega)]
    · rw [if_pos (by rw [idx_length]; omega), if_pos (by rw [overP_length]; omega), idx_succ, overP_succ, w_succ (by omega : i < l.length) (by omega)]
      rfl
noncomputable def ordR : List Int := if okW l = true ∧ InT t then ord (rm t l) l.length else []
theorem shareOrder_i : Ev (fun k => impl_ShareOrder.f k t l) (ordR t l) := by
  unfold impl_ShareOrder.f ordR
  refine Ev_bind (shareable_i t l) ?_
  by_cases h : okW l = true
  · by_cases ht : InT t
    · rw [if_pos ⟨h, ht⟩]
      have ho := (okW_iff l).1 h
      have hl := ho.1
      refine Ev.congr (fun k => ?_) (order_i t l (by omega) l.length 0 (by omega) (by omega))
      rw [h, decide_eq_true ht, if_pos (by decide)]
      rfl
    · rw [if_neg (fun g => ht g.2)]
      exact Ev_all_k fun k => by rw [h, decide_eq_false ht, if_neg (by decide)]
  · rw [if_neg (fun g => h g.1)]
    exact Ev_all_k fun k => by rw [Bool.eq_false_iff.2 h, Bool.false_and, if_neg (by decide)]
theorem put_ev (R : List Int) (n i : Nat) (hi : i < n) (hn : n ≤ 40) (out left : List Int) (hout : out.length = i) (hleft : left.length = i + 1) (hmem : ∀ x ∈ out, 0 ≤ x ∧ x < i) (hrd : ∀ x : Int, 0 ≤ x → x < i → rd left x = rm t l x) (r : Int) :
    ∀ q : Nat, q ≤ i → Ev (fun k => spec_ShareOrder.l0 k t l (out.take (pos (rm t l) r out q) ++ [(i : Int)] ++ out.drop (pos (rm t l) r out q)) left ((i + 1 : Nat) : Int)) R → Ev (fun k => spec_ShareOrder.l1 k t l out left (i : Int) r (q : Int)) R := by
  have leave : ∀ (q : Nat), q ≤ i → ∀ k, ((some (([] : List Int) : List Int)).bind fun y190 => (if 0 ≤ (q : Int) then (if (q : Int) ≤ (out.length : Int) then ((some (out.take ((q : Int) : Int).toNat : List Int)).bind fun y193 => (if y190.length + y193.length < 17592186044416 then ((some (y190 ++ y193 : List Int)).bind fun y197 => (if y197.length < 17592186044416 then ((some (y197 ++ [(i : Int)] : List Int)).bind fun y200 => ((some (out.drop ((q : Int) : Int).toNat : List Int)).bind fun y203 => (if y200.length + y203.length < 17592186044416 then (spec_ShareOrder.l0 k t l (y200 ++ y203) left (wrap64 ((i : Int) + 1))) else (none)))) else (none))) else (none))) else (none)) else (none))) = spec_ShareOrder.l0 k t l (out.take q ++ [(i : Int)] ++ out.drop q) left ((i + 1 : Nat) : Int) := by
    intro q hq k
    rw [Option.bind_some, if_pos (by omega), if_pos (by omega), Option.bind_some, if_pos (by rw [List.length_nil, List.length_take]; omega), Option.bind_some, if_pos (by rw [List.nil_append, List.length_take]; omega), Option.bind_some, Option.bind_some, if_pos (by rw [List.nil_append, List.length_append, List.length_take, List.length_singleton, List.length_drop]; omega), w_succ hi (by omega), List.nil_append, Int.toNat_natCast]
  intro q
  induction q with
  | zero =>
    intro hq hR
    refine Ev.step (fun k => ?_) hR
    simp only [spec_ShareOrder.l1]
    rw [if_neg (by omega)]
    exact leave 0 (by omega) k
  | succ q ih =>
    intro hq hR
    have hx : out.getD q 0 ∈ out := by
      rw [List.getD_eq_getElem?_getD, List.getElem?_eq_getElem (by omega : q < out.length)]
      exact List.getElem_mem _
    have hb := hmem _ hx
    have ep : wrap64 (((q + 1 : Nat) : Int) - 1) = (q : Int) := by unfold wrap64; omega
    rw [pos] at hR
    by_cases g : rm t l (out.getD q 0) < r
    · rw [if_pos g] at hR
      refine Ev.step (fun k => ?_) (ih (by omega) hR)
      simp only [spec_ShareOrder.l1]
      rw [if_pos (by omega), ep, if_pos (by omega), if_pos (by omega), rdi, if_pos hb.1, if_pos (by omega), hrd _ hb.1 hb.2, if_pos g]
    · rw [if_neg g] at hR
      refine Ev.step (fun k => ?_) hR
      simp only [spec_ShareOrder.l1]
      rw [if_pos (by omega), ep, if_pos (by omega), if_pos (by omega), rdi, if_pos hb.1, if_pos (by omega), hrd _ hb.1 hb.2, if_neg g]
      exact leave (q + 1) (by omega) k
theorem order_s (hl : l.length ≤ 40) : ∀ (d i : Nat), l.length - i = d → i ≤ l.length → Ev (fun k => spec_ShareOrder.l0 k t l (specO (rm t l) i) (overP t l i) (i : Int)) (specO (rm t l) l.length) := by
  intro d
  induction d with
  | zero =>
    intro i hd hi
    obtain rfl : i = l.length := by omega
    exact Ev_one fun k => by
      simp only [spec_ShareOrder.l0]
      rw [if_neg (by omega)]
  | succ d ih =>
    intro i hd hi
    refine Ev.step (f := fun k => (spec_ShareQuota.f k t l (i : Int)).bind fun bt182 => (if (overP t l i).length < 17592186044416 then (spec_ShareOrder.l1 k t l (specO (rm t l) i) ((overP t l i) ++ [bt182.2.1]) (i : Int) bt182.2.1 ((specO (rm t l) i).length : Int)) else (none))) (fun k => ?_) (Ev_bind (quota_s t l i) (Ev.congr (f := fun k => spec_ShareOrder.l1 k t l (specO (rm t l) i) (overP t l (i + 1)) (i : Int) (rm t l (i : Int)) ((i : Nat) : Int)) (fun k => ?_) (put_ev t l _ l.length i (by omega) hl _ _ (specO_length _ i) (overP_length t l (i + 1)) (fun x hx => (specO_mem _).1 hx) (fun x h0 h1 => rd_over t l (i + 1) x h0 (by omega)) _ i (Nat.le_refl _) ?_)))
    · simp only [spec_ShareOrder.l0]
      rw [if_pos (by omega)]
    · rw [if_pos (by rw [overP_length]; omega), specO_length, overP_succ]
      rfl
    · have e : specO (rm t l) (i + 1) = (specO (rm t l) i).take (pos (rm t l) (rm t l i) (specO (rm t l) i) i) ++ [(i : Int)] ++ (specO (rm t l) i).drop (pos (rm t l) (rm t l i) (specO (rm t l) i) i) := by
        show ins (rm t l) i (specO (rm t l) i) = _
        unfold ins
        rw [specO_length]
      rw [← e]
      exact ih (i + 1) (by omega) (by omega)
theorem shareOrder_s : Ev (fun k => spec_ShareOrder.f k t l) (ordR t l) := by
  unfold spec_ShareOrder.f ordR
  refine Ev.congr (f := fun k => (spec_WeightsOk.f k l).bind fun t177 => (if t177 = true then ((spec_l1Some.f t 0).bind fun t178 => (spec_ShareOrder.j0 k t l [] (!t178))) else (spec_ShareOrder.j0 k t l [] true))) (fun k => rfl) (Ev_bind (weightsOk_s l) ?_)
  have no : Ev (fun k => spec_ShareOrder.j0 k t l [] true) [] := Ev_one fun k => by
    simp only [spec_ShareOrder.j0]
    rw [if_pos trivial]
  by_cases h : okW l = true
  · have ho := (okW_iff l).1 h
    have hl := ho.1
    by_cases ht : InT t
    · rw [if_pos ⟨h, ht⟩, ← specO_ord (rm t l) (by omega)]
      refine Ev.congr (f := fun k => spec_ShareOrder.j0 k t l [] false) (fun k => ?_) (Ev.step (fun k => ?_) (order_s t l (by omega) l.length 0 (by omega) (by omega)))
      · rw [if_pos h, some_s1, Option.bind_some, decide_eq_true (show 0 ≤ t ∧ t ≤ 1000000000000000 from ht)]
        rfl
      · simp only [spec_ShareOrder.j0]
        rw [if_neg (by decide)]
        rfl
    · rw [if_neg (fun g => ht g.2)]
      refine Ev.congr (fun k => ?_) no
      rw [if_pos h, some_s1, Option.bind_some, decide_eq_false (show ¬ (0 ≤ t ∧ t ≤ 1000000000000000) from ht)]
      rfl
  · rw [if_neg (fun g => h g.1)]
    exact Ev.congr (fun k => by rw [if_neg h]) no
end
end Go.Proofs.Ytomanpmffjkkgaa.W3
namespace Go.Proofs.Ytomanpmffjkkgaa.W4
open Go Go.RowKit Go.Proofs.Ytomanpmffjkkgaa Go.Proofs.Ytomanpmffjkkgaa.P Go.Proofs.YtomanpmffjkkgaaW.PrintWords Go.Proofs.YtomanpmffjkkgaaW.PrintLast Go.Proofs.Ytomanpmffjkkgaa.EV Go.Proofs.Ytomanpmffjkkgaa.I1 Go.Proofs.Ytomanpmffjkkgaa.A2 Go.Proofs.Ytomanpmffjkkgaa.TI Go.Proofs.Ytomanpmffjkkgaa.W1 Go.Proofs.Ytomanpmffjkkgaa.W2 Go.Proofs.Ytomanpmffjkkgaa.W3 Go.Proofs.Ytomanpmffjkkgaa.S7
noncomputable def qt (t : Int) (l : List Int) (j : Int) : Int := (quota t l j).1
noncomputable def qP (t : Int) (l : List Int) (i : Nat) : List Int := (List.range i).map fun j : Nat => qt t l (j : Int)
def incL (Q : List Int) (xs : List Int) : List Int := xs.foldl (fun Q x => Q.set x.toNat (wrap64 (rd Q x + 1))) Q
theorem incL_snoc (Q xs : List Int) (x : Int) : incL Q (xs ++ [x]) = (incL Q xs).set x.toNat (wrap64 (rd (incL Q xs) x + 1)) := by unfold incL; rw [List.foldl_append]; rfl
theorem incL_length (Q : List Int) : ∀ xs : List Int, (incL Q xs).length = Q.length := by
  intro xs
  induction xs generalizing Q with
  | nil => rfl
  | cons x xs ih =>
    show (incL (Q.set x.toNat (wrap64 (rd Q x + 1))) xs).length = _
    rw [ih, List.length_set]
section
variable (t : Int) (l : List Int)
theorem qP_succ (i : Nat) : qP t l (i + 1) = qP t l i ++ [qt t l (i : Int)] := by unfold qP; rw [List.range_succ, List.map_append]; rfl
theorem qP_length (i : Nat) : (qP t l i).length = i := by unfold qP; rw [List.length_map, List.length_range]
variable {t l}
theorem mul_le_left {t w W : Int} (ht : 0 ≤ t) (h : w ≤ W) (hW : 0 < W) : t * w / W ≤ t := by
  have : t * w ≤ t * W := Int.mul_le_mul_of_nonneg_left h ht
  exact Int.ediv_le_of_le_mul hW this
theorem le_sum : ∀ (l : List Int), (∀ x ∈ l, 0 ≤ x) → ∀ x ∈ l, x ≤ l.sum
  | [], _, x, h => by cases h
  | y :: l, h0, x, h => by
    rw [List.sum_cons]
    have hs : ∀ (l : List Int), (∀ x ∈ l, 0 ≤ x) → 0 ≤ l.sum := by
      intro l
      induction l with
      | nil => intro _; simp
      | cons z l ih =>
        intro h
        rw [List.sum_cons]
        have := h z (List.mem_cons_self ..)
        have := ih fun x hx => h x (List.mem_cons_of_mem _ hx)
        omega
    rcases List.mem_cons.1 h with rfl | h
    · have := hs l fun x hx => h0 x (List.mem_cons_of_mem _ hx)
      omega
    · have := le_sum l (fun x hx => h0 x (List.mem_cons_of_mem _ hx)) x h
      have := h0 y (List.mem_cons_self ..)
      omega
theorem part (ho : OkW l) (ht : InT t) (j : Nat) (hj : j < l.length) : quota t l (j : Int) = (t * l.getD j 0 / l.sum, t * l.getD j 0 % l.sum, true) := by
  rw [quota_yes ⟨ho, ht, by omega, by omega⟩, rdi]
  have hf := ho.few.at j hj
  have hm : l.getD j 0 ∈ l := by
    rw [List.getD_eq_getElem?_getD, List.getElem?_eq_getElem hj]
    exact List.getElem_mem _
  have hs := le_sum l (fun x hx => (ho.1.2.2 x hx).1) _ hm
  have h2 := ho.2
  have := mul_le_left ht.1 hs (by omega)
  have := ht.2
  exact md_yes ⟨ht, hf, h2, by omega⟩
theorem qt_eq (ho : OkW l) (ht : InT t) (j : Nat) (hj : j < l.length) : qt t l (j : Int) = t * l.getD j 0 / l.sum := by unfold qt; rw [part ho ht j hj]
theorem rm_eq (ho : OkW l) (ht : InT t) (j : Nat) (hj : j < l.length) : rm t l (j : Int) = t * l.getD j 0 % l.sum := by unfold rm; rw [part ho ht j hj]
theorem rm_range (ho : OkW l) (ht : InT t) (j : Nat) (hj : j < l.length) : 0 ≤ rm t l (j : Int) ∧ rm t l (j : Int) < l.sum := by
  have h2 := ho.2
  rw [rm_eq ho ht j hj]
  exact ⟨Int.emod_nonneg _ (by omega), Int.emod_lt_of_pos _ (by omega)⟩
theorem qt_range (ho : OkW l) (ht : InT t) (j : Nat) (hj : j < l.length) : 0 ≤ qt t l (j : Int) ∧ qt t l (j : Int) ≤ t := by
  have h2 := ho.2
  have hf := ho.few.at j hj
  have hm : l.getD j 0 ∈ l := by
    rw [List.getD_eq_getElem?_getD, List.getElem?_eq_getElem hj]
    exact List.getElem_mem _
  have hs := le_sum l (fun x hx => (ho.1.2.2 x hx).1) _ hm
  rw [qt_eq ho ht j hj]
  exact ⟨Int.ediv_nonneg (Int.mul_nonneg ht.1 hf.1) (by omega), mul_le_left ht.1 hs (by omega)⟩
theorem take_sum (i : Nat) (hi : i < l.length) : (l.take (i + 1)).sum = (l.take i).sum + l.getD i 0 := by
  rw [List.take_add_one, List.getElem?_eq_getElem hi, List.getD_eq_getElem?_getD, List.getElem?_eq_getElem hi, List.sum_append]
  simp
theorem sums (ho : OkW l) (ht : InT t) : ∀ i : Nat, i ≤ l.length → (qP t l i).sum * l.sum + (overP t l i).sum = t * (l.take i).sum ∧ 0 ≤ (overP t l i).sum ∧ (overP t l i).sum ≤ i * (l.sum - 1) ∧ 0 ≤ (qP t l i).sum ∧ (qP t l i).sum ≤ i * t
  | 0, _ => by
    refine ⟨?_, ?_, ?_, ?_, ?_⟩ <;> simp [qP, overP]
  | i + 1, hi => by
    obtain ⟨h1, h2, h3, h4, h5⟩ := sums ho ht i (by omega)
    have hr := rm_range ho ht i (by omega)
    have hq := qt_range ho ht i (by omega)
    have e : qt t l (i : Int) * l.sum + rm t l (i : Int) = t * l.getD i 0 := by
      rw [qt_eq ho ht i (by omega), rm_eq ho ht i (by omega)]
      exact Int.ediv_mul_add_emod _ _
    rw [qP_succ, overP_succ, take_sum i (by omega), List.sum_append, List.sum_append, Int.mul_add, Int.add_mul]
    have e1 : ([qt t l (i : Int)] : List Int).sum = qt t l (i : Int) := by simp
    have e2 : ([rm t l (i : Int)] : List Int).sum = rm t l (i : Int) := by simp
    have e3 : ((i + 1 : Nat) : Int) * (l.sum - 1) = (i : Int) * (l.sum - 1) + (l.sum - 1) := by rw [Int.natCast_add, Int.add_mul]; simp
    have e4 : ((i + 1 : Nat) : Int) * t = (i : Int) * t + t := by rw [Int.natCast_add, Int.add_mul]; simp
    rw [e1, e2, e3, e4]
    refine ⟨by omega, by omega, by omega, by omega, by omega⟩
theorem more_range (ho : OkW l) (ht : InT t) : (t - (qP t l l.length).sum) * l.sum = (overP t l l.length).sum ∧ 0 ≤ t - (qP t l l.length).sum ∧ t - (qP t l l.length).sum < l.length := by
  obtain ⟨h1, h2, h3, _, _⟩ := sums ho ht l.length (Nat.le_refl _)
  rw [List.take_length] at h1
  have hW := ho.2.1
  have hn := ho.1.1
  have e : (t - (qP t l l.length).sum) * l.sum = (overP t l l.length).sum := by rw [Int.sub_mul]; omega
  refine ⟨e, ?_, ?_⟩
  · apply Classical.byContradiction
    intro h
    have : (t - (qP t l l.length).sum) * l.sum < 0 := Int.mul_neg_of_neg_of_pos (by omega) (by omega)
    omega
  · apply Classical.byContradiction
    intro h
    have h4 : (l.length : Int) * l.sum ≤ (t - (qP t l l.length).sum) * l.sum := Int.mul_le_mul_of_nonneg_right (by omega) (by omega)
    have h5 : (l.length : Int) * (l.sum - 1) = (l.length : Int) * l.sum - l.length := by rw [Int.mul_sub, Int.mul_one]
    omega
theorem qP_few (ho : OkW l) (ht : InT t) : Few (qP t l l.length) := by
  have hn := ho.1.2.1
  refine ⟨by rw [qP_length]; omega, fun x hx => ?_⟩
  unfold qP at hx
  obtain ⟨j, hj, rfl⟩ := List.mem_map.1 hx
  have := qt_range ho ht j (List.mem_range.1 hj)
  have := ht.2
  omega
variable (t l)
noncomputable def moreN : Nat := (t - (qP t l l.length).sum).toNat
noncomputable def sharesR : List Int × Bool := if okW l = true ∧ InT t then (incL (qP t l l.length) ((ord (rm t l) l.length).take (moreN t l)), true) else ([], false)
variable {t l}
theorem inc_i (Q y : List Int) (hy : ∀ x ∈ y, 0 ≤ x ∧ x < Q.length) (hyl : y.length ≤ 40) : ∀ (d i : Nat), y.length - i = d → i ≤ y.length → Ev (fun k => impl_Shares.l1 k (incL Q (y.take i)) y (y.length : Int) (i : Int)) (incL Q y, true) := by
  intro d
  induction d with
  | zero =>
    intro i hd hi
    obtain rfl : i = y.length := by omega
    exact Ev_one fun k => by
      simp only [impl_Shares.l1]
      rw [if_neg (by omega), List.take_length]
  | succ d ih =>
    intro i hd hi
    have hx : y.getD i 0 ∈ y := by
      rw [List.getD_eq_getElem?_getD, List.getElem?_eq_getElem (by omega : i < y.length)]
      exact List.getElem_mem _
    have hb := hy _ hx
    have e : y.take (i + 1) = y.take i ++ [y.getD i 0] := by
      rw [List.take_add_one, List.getElem?_eq_getElem (by omega : i < y.length), List.getD_eq_getElem?_getD, List.getElem?_eq_getElem (by omega : i < y.length)]
      rfl
    refine Ev.step (fun k => ?_) (ih (i + 1) (by omega) (by omega))
    simp only [impl_Shares.l1]
    rw [if_pos (by omega), if_pos (by omega), if_pos (by omega), rdi, if_pos hb.1, if_pos (by rw [incL_length]; exact hb.2), w_succ (by omega : i < y.length) (by omega), e, incL_snoc]
theorem inc_s (Q y : List Int) (left : Nat) (hy : ∀ x ∈ y, 0 ≤ x ∧ x < Q.length) (hyl : y.length ≤ 40) (hl : left ≤ y.length) : ∀ (d i : Nat), left - i = d → i ≤ left → Ev (fun k => spec_Shares.l1 k (incL Q (y.take i)) (left : Int) y (i : Int)) (incL Q (y.take left), true) := by
  intro d
  induction d with
  | zero =>
    intro i hd hi
    obtain rfl : i = left := by omega
    exact Ev_one fun k => by
      simp only [spec_Shares.l1]
      rw [if_neg (by omega)]
  | succ d ih =>
    intro i hd hi
    have hx : y.getD i 0 ∈ y := by
      rw [List.getD_eq_getElem?_getD, List.getElem?_eq_getElem (by omega : i < y.length)]
      exact List.getElem_mem _
    have hb := hy _ hx
    have e : y.take (i + 1) = y.take i ++ [y.getD i 0] := by
      rw [List.take_add_one, List.getElem?_eq_getElem (by omega : i < y.length), List.getD_eq_getElem?_getD, List.getElem?_eq_getElem (by omega : i < y.length)]
      rfl
    refine Ev.step (fun k => ?_) (ih (i + 1) (by omega) (by omega))
    simp only [spec_Shares.l1]
    rw [if_pos (by omega), if_pos (by omega), if_pos (by omega), rdi, if_pos hb.1, if_pos (by rw [incL_length]; exact hb.2), w_succ (by omega : i < y.length) (by omega), e, incL_snoc]
theorem ordR_yes (ho : OkW l) (ht : InT t) : ordR t l = ord (rm t l) l.length := by unfold ordR; rw [if_pos ⟨(okW_iff l).2 ho, ht⟩]
theorem parts_i (ho : OkW l) (ht : InT t) : ∀ (d i : Nat), l.length - i = d → i ≤ l.length → Ev (fun k => impl_Shares.l0 k t l (qP t l i) (l.length : Int) (i : Int)) (incL (qP t l l.length) ((ord (rm t l) l.length).take (moreN t l)), true) := by
  have hn := ho.1.2.1
  have hm := more_range ho ht
  have hmn : ((moreN t l : Nat) : Int) = t - (qP t l l.length).sum := by unfold moreN; omega
  have ol := ord_length (rm t l) (show l.length ≤ 40 by omega)
  have hs := sums ho ht l.length (Nat.le_refl _)
  intro d
  induction d with
  | zero =>
    intro i hd hi
    obtain rfl : i = l.length := by omega
    have h0 := ordR_yes ho ht ▸ shareOrder_i t l
    have hy : ∀ x ∈ (ord (rm t l) l.length).take (moreN t l), 0 ≤ x ∧ x < (qP t l l.length).length := fun x hx => by
      rw [qP_length]
      exact (ord_mem (rm t l) (by omega)).1 (List.mem_of_mem_take hx)
    have fin := inc_i (qP t l l.length) ((ord (rm t l) l.length).take (moreN t l)) hy (by rw [List.length_take]; omega) _ 0 rfl (by omega)
    have ht' := ht
    unfold InT at ht'
    have ew : wrap64 (t - (qP t l l.length).sum) = ((moreN t l : Nat) : Int) := by rw [hmn]; exact w64_in _ (by omega) (by omega)
    refine Ev.step (f := fun k => (impl_sumOf.f k (qP t l l.length)).bind fun t291 => ((impl_ShareOrder.f k t l).bind fun t292 => (if 0 ≤ (wrap64 (t - t291)) then (if (wrap64 (t - t291)) ≤ (t292.length : Int) then ((some (t292.take ((wrap64 (t - t291)) : Int).toNat : List Int)).bind fun y295 => (impl_Shares.l1 k (qP t l l.length) y295 (y295.length : Int) 0)) else (none)) else (none)))) (fun k => ?_) (Ev_bind (all_i (qP_few ho ht)) (Ev_bind h0 (Ev.congr (fun k => ?_) fin)))
    · simp only [impl_Shares.l0]
      rw [if_neg (by omega)]
    · rw [ew, if_pos (by omega), if_pos (by omega), Option.bind_some, Int.toNat_natCast]
      rfl
  | succ d ih =>
    intro i hd hi
    refine Ev.step (f := fun k => (impl_ShareQuota.f k t l (i : Int)).bind fun bt285 => (if (qP t l i).length < 17592186044416 then (impl_Shares.l0 k t l (qP t l i ++ [bt285.1]) (l.length : Int) (wrap64 ((i : Int) + 1))) else (none))) (fun k => ?_) (Ev_bind (quota_i t l i) (Ev.congr (fun k => ?_) (ih (i + 1) (by omega) (by omega))))
    · simp only [impl_Shares.l0]
      rw [if_pos (by omega)]
    · rw [if_pos (by rw [qP_length]; omega), qP_succ, w_succ (by omega : i < l.length) (by omega)]
      rfl
theorem parts_s (ho : OkW l) (ht : InT t) : ∀ (d i : Nat), l.length - i = d → i ≤ l.length → Ev (fun k => spec_Shares.l0 k t l (qP t l i) (t - (qP t l i).sum) (i : Int)) (incL (qP t l l.length) ((ord (rm t l) l.length).take (moreN t l)), true) := by
  have hn := ho.1.2.1
  have hm := more_range ho ht
  have hmn : ((moreN t l : Nat) : Int) = t - (qP t l l.length).sum := by unfold moreN; omega
  have ol := ord_length (rm t l) (show l.length ≤ 40 by omega)
  have ht' := ht
  unfold InT at ht'
  intro d
  induction d with
  | zero =>
    intro i hd hi
    obtain rfl : i = l.length := by omega
    have h0 := ordR_yes ho ht ▸ shareOrder_s t l
    have fin := inc_s (qP t l l.length) (ord (rm t l) l.length) (moreN t l) (fun x hx => by rw [qP_length]; exact (ord_mem (rm t l) (by omega)).1 hx) (by omega) (by omega) _ 0 rfl (by omega)
    refine Ev.step (f := fun k => (spec_ShareOrder.f k t l).bind fun t274 => (spec_Shares.l1 k (qP t l l.length) ((moreN t l : Nat) : Int) t274 0)) (fun k => ?_) (Ev_bind h0 fin)
    simp only [spec_Shares.l0]
    rw [if_neg (by omega), hmn]
  | succ d ih =>
    intro i hd hi
    have hs := sums ho ht i (by omega)
    have hq := qt_range ho ht i (by omega)
    have hb : (i : Int) * t ≤ 40 * 1000000000000000 := by
      have h1 : (i : Int) * t ≤ 40 * t := Int.mul_le_mul_of_nonneg_right (by omega) ht'.1
      omega
    refine Ev.step (f := fun k => (spec_ShareQuota.f k t l (i : Int)).bind fun bt268 => (if (qP t l i).length < 17592186044416 then (spec_Shares.l0 k t l (qP t l i ++ [bt268.1]) (wrap64 ((t - (qP t l i).sum) - bt268.1)) (wrap64 ((i : Int) + 1))) else (none))) (fun k => ?_) (Ev_bind (quota_s t l i) (Ev.congr (fun k => ?_) (ih (i + 1) (by omega) (by omega))))
    · simp only [spec_Shares.l0]
      rw [if_pos (by omega)]
    · have es : (qP t l (i + 1)).sum = (qP t l i).sum + qt t l i := by rw [qP_succ, List.sum_append]; simp
      have e : wrap64 ((t - (qP t l i).sum) - qt t l i) = t - (qP t l (i + 1)).sum := by
        rw [es, w64_in _ (by omega) (by omega)]
        omega
      show (if (qP t l i).length < 17592186044416 then (spec_Shares.l0 k t l (qP t l i ++ [qt t l i]) (wrap64 ((t - (qP t l i).sum) - qt t l i)) (wrap64 ((i : Int) + 1))) else (none)) = _
      rw [if_pos (by rw [qP_length]; omega), e, qP_succ, w_succ (by omega : i < l.length) (by omega)]
variable (t l)
theorem shares_i : Ev (fun k => impl_Shares.f k t l) (sharesR t l) := by
  unfold impl_Shares.f sharesR
  refine Ev_bind (shareable_i t l) ?_
  by_cases h : okW l = true
  · by_cases ht : InT t
    · rw [if_pos ⟨h, ht⟩]
      refine Ev.congr (fun k => ?_) (parts_i ((okW_iff l).1 h) ht l.length 0 (by omega) (by omega))
      rw [h, decide_eq_true ht, if_pos (by decide)]
      rfl
    · rw [if_neg (fun g => ht g.2)]
      exact Ev_all_k fun k => by rw [h, decide_eq_false ht, if_neg (by decide)]
  · rw [if_neg (fun g => h g.1)]
    exact Ev_all_k fun k => by rw [Bool.eq_false_iff.2 h, Bool.false_and, if_neg (by decide)]
theorem shares_s : Ev (fun k => spec_Shares.f k t l) (sharesR t l) := by
  unfold spec_Shares.f sharesR
  refine Ev.congr (f := fun k => (spec_WeightsOk.f k l).bind fun t266 => (if t266 = true then ((spec_l1Some.f t 0).bind fun t267 => (spec_Shares.j0 k t l [] (!t267))) else (spec_Shares.j0 k t l [] true))) (fun k => rfl) (Ev_bind (weightsOk_s l) ?_)
  have no : Ev (fun k => spec_Shares.j0 k t l [] true) ([], false) := Ev_one fun k => by
    simp only [spec_Shares.j0]
    rw [if_pos trivial]
  by_cases h : okW l = true
  · by_cases ht : InT t
    · rw [if_pos ⟨h, ht⟩]
      have h0 := parts_s ((okW_iff l).1 h) ht l.length 0 (by omega) (by omega)
      refine Ev.congr (f := fun k => spec_Shares.j0 k t l [] false) (fun k => ?_) (Ev.step (fun k => ?_) h0)
      · rw [if_pos h, some_s1, Option.bind_some, decide_eq_true (show 0 ≤ t ∧ t ≤ 1000000000000000 from ht)]
        rfl
      · simp only [spec_Shares.j0]
        rw [if_neg (by decide)]
        show spec_Shares.l0 k t l [] t 0 = spec_Shares.l0 k t l [] (t - ([] : List Int).sum) 0
        rw [List.sum_nil, Int.sub_zero]
    · rw [if_neg (fun g => ht g.2)]
      refine Ev.congr (fun k => ?_) no
      rw [if_pos h, some_s1, Option.bind_some, decide_eq_false (show ¬ (0 ≤ t ∧ t ≤ 1000000000000000) from ht)]
      rfl
  · rw [if_neg (fun g => h g.1)]
    exact Ev.congr (fun k => by rw [if_neg h]) no
end
end Go.Proofs.Ytomanpmffjkkgaa.W4
namespace Go.Proofs.Ytomanpmffjkkgaa.W6
open Go Go.RowKit Go.Proofs.Ytomanpmffjkkgaa Go.Proofs.Ytomanpmffjkkgaa.P Go.Proofs.YtomanpmffjkkgaaW.PrintWords Go.Proofs.YtomanpmffjkkgaaW.PrintLast Go.Proofs.Ytomanpmffjkkgaa.EV Go.Proofs.Ytomanpmffjkkgaa.I1 Go.Proofs.Ytomanpmffjkkgaa.A2 Go.Proofs.Ytomanpmffjkkgaa.TI Go.Proofs.Ytomanpmffjkkgaa.W1 Go.Proofs.Ytomanpmffjkkgaa.W2 Go.Proofs.Ytomanpmffjkkgaa.W3 Go.Proofs.Ytomanpmffjkkgaa.W4 Go.Proofs.Ytomanpmffjkkgaa.S7
section
variable {t : Int} {l : List Int}
noncomputable def top (t : Int) (l : List Int) : List Int := (ord (rm t l) l.length).take (moreN t l)
noncomputable def parts (t : Int) (l : List Int) : List Int := incL (qP t l l.length) (top t l)
theorem parts_length : (parts t l).length = l.length := by unfold parts; rw [incL_length, qP_length]
end
end Go.Proofs.Ytomanpmffjkkgaa.W6
namespace Go.Proofs.Ytomanpmffjkkgaa.E9
open Go Go.RowKit Go.Proofs.Ytomanpmffjkkgaa Go.Proofs.Ytomanpmffjkkgaa.P Go.Proofs.YtomanpmffjkkgaaW.PrintWords Go.Proofs.YtomanpmffjkkgaaW.PrintLast Go.Proofs.Ytomanpmffjkkgaa.EV Go.Proofs.Ytomanpmffjkkgaa.I1 Go.Proofs.Ytomanpmffjkkgaa.N1 Go.Proofs.Ytomanpmffjkkgaa.TI Go.Proofs.Ytomanpmffjkkgaa.E1 Go.Proofs.Ytomanpmffjkkgaa.E2 Go.Proofs.Ytomanpmffjkkgaa.E3 Go.Proofs.Ytomanpmffjkkgaa.E5 Go.Proofs.Ytomanpmffjkkgaa.E6 Go.Proofs.Ytomanpmffjkkgaa.E7 Go.Proofs.Ytomanpmffjkkgaa.E8
def wts (own : List SL) : List Int := own.map fun x => x.f3
def lft : List SL → List Int → List SL
  | x :: xs, p :: ps => if p = 0 then lft xs ps else ⟨x.f0, x.f1, x.f2, p, x.f4⟩ :: lft xs ps
  | _, _ => []
def lost : List SL → List Int → Int
  | x :: xs, p :: ps => if p = 0 then x.f4 + lost xs ps else lost xs ps
  | _, _ => 0
def more : List SL → Int → List SL
  | [], _ => []
  | x :: xs, c => ⟨x.f0, x.f1, x.f2, x.f3, x.f4 + c⟩ :: xs
def scl (own : List SL) (P : List Int) : List SL := more (lft own P) (lost own P)
theorem lft_len : ∀ (own : List SL) (P : List Int), (lft own P).length ≤ own.length
  | [], P => by simp [lft]
  | x :: xs, [] => by simp [lft]
  | x :: xs, p :: ps => by
    have := lft_len xs ps
    rw [lft]
    split
    · rw [List.length_cons]; omega
    · rw [List.length_cons, List.length_cons]; omega
theorem more_len : ∀ (L : List SL) (c : Int), (more L c).length = L.length
  | [], _ => rfl
  | _ :: _, _ => rfl
theorem lft_mem : ∀ (own : List SL) (P : List Int), ∀ y ∈ lft own P, ∃ x ∈ own, ∃ p ∈ P, p ≠ 0 ∧ y = ⟨x.f0, x.f1, x.f2, p, x.f4⟩
  | [], P, y, h => by simp [lft] at h
  | x :: xs, [], y, h => by simp [lft] at h
  | x :: xs, p :: ps, y, h => by
    rw [lft] at h
    by_cases e : p = 0
    · rw [if_pos e] at h
      obtain ⟨x', hx, p', hp, h1, h2⟩ := lft_mem xs ps y h
      exact ⟨x', List.mem_cons_of_mem _ hx, p', List.mem_cons_of_mem _ hp, h1, h2⟩
    · rw [if_neg e] at h
      rcases List.mem_cons.1 h with rfl | h
      · exact ⟨x, List.mem_cons_self .., p, List.mem_cons_self .., e, rfl⟩
      · obtain ⟨x', hx, p', hp, h1, h2⟩ := lft_mem xs ps y h
        exact ⟨x', List.mem_cons_of_mem _ hx, p', List.mem_cons_of_mem _ hp, h1, h2⟩
theorem lt_same {x y x' y' : SL} (h : Lt x y) (e1 : x'.f0 = x.f0 ∧ x'.f1 = x.f1 ∧ x'.f2 = x.f2) (e2 : y'.f0 = y.f0 ∧ y'.f1 = y.f1 ∧ y'.f2 = y.f2) : Lt x' y' := by
  unfold Lt at *
  rw [e1.1, e1.2.1, e1.2.2, e2.1, e2.2.1, e2.2.2]
  exact h
theorem lft_pw : ∀ (own : List SL) (P : List Int), own.Pairwise Lt → (lft own P).Pairwise Lt
  | [], P, _ => by simp [lft]
  | x :: xs, [], _ => by simp [lft]
  | x :: xs, p :: ps, h => by
    have h' := List.pairwise_cons.1 h
    rw [lft]
    split
    · exact lft_pw xs ps h'.2
    · refine List.pairwise_cons.2 ⟨fun y hy => ?_, lft_pw xs ps h'.2⟩
      obtain ⟨x', hx, p', _, _, rfl⟩ := lft_mem xs ps y hy
      exact lt_same (h'.1 x' hx) ⟨rfl, rfl, rfl⟩ ⟨rfl, rfl, rfl⟩
theorem more_pw : ∀ (L : List SL) (c : Int), L.Pairwise Lt → (more L c).Pairwise Lt
  | [], _, h => h
  | x :: xs, c, h => by
    have h' := List.pairwise_cons.1 h
    exact List.pairwise_cons.2 ⟨fun y hy => lt_same (h'.1 y hy) ⟨rfl, rfl, rfl⟩ ⟨rfl, rfl, rfl⟩, h'.2⟩
theorem more_key {a b : Int} : ∀ (L : List SL) (c : Int), (∀ x ∈ L, x.f0 = a ∧ x.f1 = b) → ∀ x ∈ more L c, x.f0 = a ∧ x.f1 = b
  | [], _, h => h
  | x :: xs, c, h => fun y hy => by
    rcases List.mem_cons.1 hy with rfl | hy
    · exact h x (List.mem_cons_self ..)
    · exact h y (List.mem_cons_of_mem _ hy)
theorem wts_len (own : List SL) : (wts own).length = own.length := by unfold wts; rw [List.length_map]
theorem wts_sum : ∀ own : List SL, (wts own).sum = tot own
  | [] => rfl
  | x :: xs => by
    have := wts_sum xs
    unfold wts at *
    rw [List.map_cons, List.sum_cons, this]
    rfl
theorem wts_ok {a b : Int} {own : List SL} (h : Own' a b own) (h0 : own.length ≠ 0) (h1 : own.length ≤ 40) : W1.OkW (wts own) := by
  have hl := wts_len own
  have hm : ∀ x ∈ wts own, 0 ≤ x ∧ x ≤ 1000000000000000 := fun x hx => by
    obtain ⟨y, hy, rfl⟩ := List.mem_map.1 hx
    have := h.form y hy
    unfold E1.Form at this
    omega
  refine ⟨⟨by omega, by omega, hm⟩, ?_, by rw [wts_sum]; exact h.tot1⟩
  rw [wts_sum]
  have hf := h.form
  cases own with
  | nil => exact absurd rfl h0
  | cons x xs =>
    have h1 := hf x (List.mem_cons_self ..)
    have h2 := all4_pos (m := xs) fun y hy => hf y (List.mem_cons_of_mem _ hy)
    unfold E1.Form at h1
    simp only [tot]
    omega
noncomputable def scaleR (l : List SL) (a b q : Int) : List SL × Int :=
  if impl_LotsOk.ok l = true ∧ (0 ≤ q ∧ q ≤ 1000000000000000) then
    (if (ofL a b l).length = 0 then (if q = 0 then (l, 0) else (l, 2)) else if 40 < (ofL a b l).length then (l, 3) else (mergeL (outL a b l) (scl (ofL a b l) (W6.parts q (wts (ofL a b l)))), 0))
  else ([], 1)
theorem wts_take (own : List SL) (i : Nat) (h : i < own.length) : wts (own.take (i + 1)) = wts (own.take i) ++ [(own.getD i z37).f3] := by
  unfold wts
  rw [List.take_add_one, List.getElem?_eq_getElem h, List.map_append, List.getD_eq_getElem?_getD, List.getElem?_eq_getElem h]
  rfl
theorem set_more (L : List SL) (c : Int) (h : L ≠ []) (hc : ∀ x ∈ L, -1000000000000000000 ≤ x.f4 + c ∧ x.f4 + c ≤ 1000000000000000000) : L.set (0 : Int).toNat (⟨(rd_T37 L 0).f0, (rd_T37 L 0).f1, (rd_T37 L 0).f2, (rd_T37 L 0).f3, wrap64 (((rd_T37 L 0).f4) + c)⟩ : SL) = more L c := by
  cases L with
  | nil => exact absurd rfl h
  | cons x xs =>
    have := hc x (List.mem_cons_self ..)
    have e : rd_T37 (x :: xs) 0 = x := rfl
    rw [e, w64_in _ (by omega) (by omega)]
    rfl
theorem ne_pos {L : List SL} (h : L ≠ []) : 0 < L.length := List.length_pos_iff.2 h
theorem lft_drop (own : List SL) (P : List Int) (i : Nat) (h : i < own.length) (hp : i < P.length) :
    lft (own.drop i) (P.drop i) = (if P.getD i 0 = 0 then lft (own.drop (i + 1)) (P.drop (i + 1)) else (⟨(own.getD i z37).f0, (own.getD i z37).f1, (own.getD i z37).f2, P.getD i 0, (own.getD i z37).f4⟩ : SL) :: lft (own.drop (i + 1)) (P.drop (i + 1))) ∧
    lost (own.drop i) (P.drop i) = (if P.getD i 0 = 0 then (own.getD i z37).f4 + lost (own.drop (i + 1)) (P.drop (i + 1)) else lost (own.drop (i + 1)) (P.drop (i + 1))) := by
  rw [drop_getD z37 own i h, drop_getD 0 P i hp]
  exact ⟨rfl, rfl⟩
theorem scale_l1s (own rest : List SL) (P : List Int) (R : List SL × Int) (hl : own.length = P.length) (hn : own.length ≤ 120) (_hr : rest.length ≤ 1048576) (hf : ∀ x ∈ own, E1.Form x)
    (hR : ∀ L : List SL, L = scl own P → Ev (fun k => (spec_l5Merge.f k rest L).bind fun t => some (t, (0 : Int))) R) :
    ∀ (d i : Nat) (L : List SL) (c : Int), own.length - i = d → i ≤ own.length → L.length ≤ i → (∀ x ∈ L, 0 ≤ x.f4 ∧ x.f4 ≤ 1000000000000000) → 0 ≤ c → c ≤ i * 1000000000000000 → L ++ lft (own.drop i) (P.drop i) = lft own P → c + lost (own.drop i) (P.drop i) = lost own P →
    Ev (fun k => spec_LotsScale.l1 k own rest P L c (i : Int)) R := by
  intro d
  induction d with
  | zero =>
    intro i L c hd hi hL h4 c0 c1 e1 e2
    obtain rfl : i = own.length := by omega
    rw [List.drop_length] at e1 e2
    have e1' : L = lft own P := by rw [← e1]; show L = L ++ []; rw [List.append_nil]
    have e2' : c = lost own P := by rw [← e2]; show c = c + 0; omega
    by_cases h : L = []
    · refine Ev.step (fun k => ?_) (hR L (by unfold scl; rw [← e1', h]; rfl))
      simp only [spec_LotsScale.l1]
      rw [if_neg (by omega), h, if_neg (by decide)]
    · have hp := ne_pos h
      refine Ev.step (fun k => ?_) (hR (more L c) (by unfold scl; rw [← e1', ← e2']))
      simp only [spec_LotsScale.l1]
      rw [if_neg (by omega), if_pos (by omega), if_pos (by omega), set_more L c h (fun x hx => by have := h4 x hx; omega)]
  | succ d ih =>
    intro i L c hd hi hL h4 c0 c1 e1 e2
    obtain ⟨d1, d2⟩ := lft_drop own P i (by omega) (by omega)
    rw [d1] at e1
    rw [d2] at e2
    have hx : own.getD i z37 ∈ own := by
      rw [List.getD_eq_getElem?_getD, List.getElem?_eq_getElem (by omega : i < own.length)]
      exact List.getElem_mem _
    have hfx := hf _ hx
    unfold E1.Form at hfx
    by_cases g : P.getD i 0 = 0
    · rw [if_pos g] at e1 e2
      refine Ev.step (fun k => ?_) (ih (i + 1) L (c + (own.getD i z37).f4) (by omega) (by omega) (by omega) h4 (by omega) (by omega) e1 (by omega))
      simp only [spec_LotsScale.l1]
      rw [if_pos (by omega), if_pos (by omega), if_pos (by omega), rdi, if_pos g, rdL, w_succ (by omega : i < own.length) (by omega), w64_in _ (by omega) (by omega)]
    · rw [if_neg g] at e1 e2
      refine Ev.step (fun k => ?_) (ih (i + 1) (L ++ [⟨(own.getD i z37).f0, (own.getD i z37).f1, (own.getD i z37).f2, P.getD i 0, (own.getD i z37).f4⟩]) c (by omega) (by omega) (by rw [List.length_append, List.length_singleton]; omega) (fun x hx => by
        rcases List.mem_append.1 hx with h | h
        · exact h4 x h
        · rw [List.mem_singleton.1 h]
          dsimp only
          omega) c0 (by omega) (by rw [List.append_assoc]; exact e1) e2)
      simp only [spec_LotsScale.l1]
      rw [if_pos (by omega), if_pos (by omega), if_pos (by omega), rdi, if_neg g, if_pos (by omega), rdL, w_succ (by omega : i < own.length) (by omega)]
theorem scale_l1i (l : List SL) (a b : Int) (own : List SL) (P : List Int) (R : List SL × Int) (hl : own.length = P.length) (hn : own.length ≤ 120) (hf : ∀ x ∈ own, E1.Form x)
    (hR : ∀ L : List SL, L = scl own P → Ev (fun _ => (impl_withLots.f l a b L).bind fun t => some (t, (0 : Int))) R) :
    ∀ (d i : Nat) (L : List SL) (c : Int), own.length - i = d → i ≤ own.length → L.length ≤ i → (∀ x ∈ L, 0 ≤ x.f4 ∧ x.f4 ≤ 1000000000000000) → 0 ≤ c → c ≤ i * 1000000000000000 → L ++ lft (own.drop i) (P.drop i) = lft own P → c + lost (own.drop i) (P.drop i) = lost own P →
    Ev (fun k => impl_LotsScale.l1 k l a b P L c own (own.length : Int) (i : Int)) R := by
  intro d
  induction d with
  | zero =>
    intro i L c hd hi hL h4 c0 c1 e1 e2
    obtain rfl : i = own.length := by omega
    rw [List.drop_length] at e1 e2
    have e1' : L = lft own P := by rw [← e1]; show L = L ++ []; rw [List.append_nil]
    have e2' : c = lost own P := by rw [← e2]; show c = c + 0; omega
    by_cases h : L = []
    · refine Ev.step (fun k => ?_) (hR L (by unfold scl; rw [← e1', h]; rfl))
      simp only [impl_LotsScale.l1]
      rw [if_neg (by omega), h, if_neg (by decide)]
    · have hp := ne_pos h
      refine Ev.step (fun k => ?_) (hR (more L c) (by unfold scl; rw [← e1', ← e2']))
      simp only [impl_LotsScale.l1]
      rw [if_neg (by omega), if_pos (by omega), if_pos (by omega), set_more L c h (fun x hx => by have := h4 x hx; omega)]
  | succ d ih =>
    intro i L c hd hi hL h4 c0 c1 e1 e2
    obtain ⟨d1, d2⟩ := lft_drop own P i (by omega) (by omega)
    rw [d1] at e1
    rw [d2] at e2
    have hx : own.getD i z37 ∈ own := by
      rw [List.getD_eq_getElem?_getD, List.getElem?_eq_getElem (by omega : i < own.length)]
      exact List.getElem_mem _
    have hfx := hf _ hx
    unfold E1.Form at hfx
    by_cases g : P.getD i 0 = 0
    · rw [if_pos g] at e1 e2
      refine Ev.step (fun k => ?_) (ih (i + 1) L (c + (own.getD i z37).f4) (by omega) (by omega) (by omega) h4 (by omega) (by omega) e1 (by omega))
      simp only [impl_LotsScale.l1]
      rw [if_pos (by omega), if_pos (by omega), if_pos (by omega), if_pos (by omega), rdi, if_pos g, rdL, w_succ (by omega : i < own.length) (by omega), w64_in _ (by omega) (by omega)]
    · rw [if_neg g] at e1 e2
      refine Ev.step (fun k => ?_) (ih (i + 1) (L ++ [⟨(own.getD i z37).f0, (own.getD i z37).f1, (own.getD i z37).f2, P.getD i 0, (own.getD i z37).f4⟩]) c (by omega) (by omega) (by rw [List.length_append, List.length_singleton]; omega) (fun x hx => by
        rcases List.mem_append.1 hx with h | h
        · exact h4 x h
        · rw [List.mem_singleton.1 h]
          dsimp only
          omega) c0 (by omega) (by rw [List.append_assoc]; exact e1) e2)
      simp only [impl_LotsScale.l1]
      rw [if_pos (by omega), if_pos (by omega), if_pos (by omega), if_pos (by omega), rdi, if_neg g, if_pos (by omega), rdL, w_succ (by omega : i < own.length) (by omega)]
theorem shares_wts {a b : Int} {own : List SL} (h : Own' a b own) (h0 : own.length ≠ 0) (h1 : own.length ≤ 40) (q : Int) (hq : 0 ≤ q ∧ q ≤ 1000000000000000) : W4.sharesR q (wts own) = (W6.parts q (wts own), true) := by
  unfold W4.sharesR
  rw [if_pos ⟨(W1.okW_iff _).2 (wts_ok h h0 h1), hq⟩]
  rfl
theorem scl_len (own : List SL) (P : List Int) : (scl own P).length ≤ own.length := by
  unfold scl
  rw [more_len]
  exact lft_len own P
theorem scl_pw {a b : Int} {own : List SL} (h : Own' a b own) (P : List Int) : (scl own P).Pairwise Lt := more_pw _ _ (lft_pw own P h.pw)
theorem scl_key {a b : Int} {own : List SL} (h : Own' a b own) (P : List Int) : ∀ x ∈ scl own P, x.f0 = a ∧ x.f1 = b := by
  refine more_key _ _ fun y hy => ?_
  obtain ⟨x, hx, _, _, _, rfl⟩ := lft_mem own P y hy
  exact h.key x hx
theorem wts_s (own rest : List SL) (q : Int) (R : List SL × Int) (hn : own.length ≤ 120) (hR : Ev (fun k => (spec_Shares.f k q (wts own)).bind fun bt992 => (spec_LotsScale.l1 k own rest bt992.1 (([] : List SL)) 0 0)) R) :
    ∀ (d i : Nat), own.length - i = d → i ≤ own.length → Ev (fun k => spec_LotsScale.l0 k q own rest (wts (own.take i)) (i : Int)) R := by
  intro d
  induction d with
  | zero =>
    intro i hd hi
    obtain rfl : i = own.length := by omega
    refine Ev.step (fun k => ?_) hR
    simp only [spec_LotsScale.l0]
    rw [if_neg (by omega), List.take_length]
  | succ d ih =>
    intro i hd hi
    refine Ev.step (fun k => ?_) (ih (i + 1) (by omega) (by omega))
    simp only [spec_LotsScale.l0]
    rw [if_pos (by omega), if_pos (by omega), if_pos (by rw [wts_len, List.length_take]; omega), rdL, wts_take own i (by omega), w_succ (by omega : i < own.length) (by omega)]
theorem wts_i (l : List SL) (a b : Int) (own : List SL) (q : Int) (R : List SL × Int) (hn : own.length ≤ 120) (hR : Ev (fun k => (impl_Shares.f k q (wts own)).bind fun bt1061 => (impl_LotsScale.l1 k l a b bt1061.1 (([] : List SL)) 0 own (own.length : Int) 0)) R) :
    ∀ (d i : Nat), own.length - i = d → i ≤ own.length → Ev (fun k => impl_LotsScale.l0 k l a b q own (wts (own.take i)) own (own.length : Int) (i : Int)) R := by
  intro d
  induction d with
  | zero =>
    intro i hd hi
    obtain rfl : i = own.length := by omega
    refine Ev.step (fun k => ?_) hR
    simp only [impl_LotsScale.l0]
    rw [if_neg (by omega), List.take_length]
  | succ d ih =>
    intro i hd hi
    refine Ev.step (fun k => ?_) (ih (i + 1) (by omega) (by omega))
    simp only [impl_LotsScale.l0]
    rw [if_pos (by omega), if_pos (by omega), if_pos (by omega), if_pos (by rw [wts_len, List.length_take]; omega), rdL, wts_take own i (by omega), w_succ (by omega : i < own.length) (by omega)]
theorem scale_s (l : List SL) (a b q : Int) (hl : l.length ≤ 1048576) : Ev (fun k => spec_LotsScale.f k l a b q) (scaleR l a b q) := by
  unfold spec_LotsScale.f scaleR
  refine Ev_bind (lotsOk_s l) ?_
  have bad : Ev (fun k => spec_LotsScale.j0 k l a b q true) (([] : List SL), (1 : Int)) := Ev_one fun k => by
    simp only [spec_LotsScale.j0]
    rw [if_pos trivial]
  by_cases h : impl_LotsOk.ok l = true
  · by_cases hq : 0 ≤ q ∧ q ≤ 1000000000000000
    · rw [if_pos ⟨h, hq⟩]
      have hR := (ok_iff l).1 h
      have hO := own_of hR a b
      have hrest := out_len a b l
      refine Ev.congr (f := fun k => spec_LotsScale.j0 k l a b q false) (fun k => by rw [if_pos h, E1.some_s, Option.bind_some, decide_eq_true hq]; rfl) ?_
      have hS := split_s l a b (by omega)
      generalize outL a b l = rest at *
      generalize ofL a b l = own at *
      refine Ev.step (f := fun k => (spec_l5Split.f k l a b).bind fun bt973 => ((some (([] : List SL) : List SL)).bind fun y979 => (if y979.length + l.length < 3518437208883 then ((some (y979 ++ l : List SL)).bind fun y982 => (if (bt973.1.length : Int) = 0 then (spec_LotsScale.j1 k q bt973.1 bt973.2 y982 (decide (q > 0))) else (spec_LotsScale.j1 k q bt973.1 bt973.2 y982 false))) else (none)))) (fun k => ?_) (Ev_bind hS ?_)
      · simp only [spec_LotsScale.j0]
        rw [if_neg (by decide)]
      · refine Ev.congr (f := fun k => if (own.length : Int) = 0 then spec_LotsScale.j1 k q own rest l (decide (q > 0)) else spec_LotsScale.j1 k q own rest l false) (fun k => by rw [Option.bind_some, if_pos (by rw [List.length_nil]; omega), Option.bind_some, List.nil_append]) ?_
        have hlen := hO.len
        by_cases h0 : own.length = 0
        · rw [if_pos h0]
          refine Ev.congr (fun k => if_pos (by omega)) ?_
          by_cases g : q = 0
          · rw [if_pos g]
            exact Ev_one fun k => by
              simp only [spec_LotsScale.j1]
              rw [decide_eq_false (by omega : ¬ q > 0), if_neg (by decide), if_pos (by omega)]
          · rw [if_neg g]
            exact Ev_one fun k => by
              simp only [spec_LotsScale.j1]
              rw [decide_eq_true (by omega : q > 0), if_pos rfl]
        · rw [if_neg h0]
          refine Ev.congr (fun k => if_neg (by omega)) ?_
          by_cases h4 : 40 < own.length
          · rw [if_pos h4]
            exact Ev_one fun k => by
              simp only [spec_LotsScale.j1]
              rw [if_neg (by decide), if_neg (by omega), if_pos (by omega)]
          · rw [if_neg h4]
            have hsh := W4.shares_s q (wts own)
            rw [shares_wts hO h0 (by omega) q hq] at hsh
            have hpl : own.length = (W6.parts q (wts own)).length := by rw [W6.parts_length, wts_len]
            have hsl := scl_len own (W6.parts q (wts own))
            refine Ev.step (fun k => ?_) (wts_s own rest q _ hlen (Ev_bind hsh (scale_l1s own rest _ _ hpl hlen (by omega) hO.form (fun L hL => ?_) own.length 0 [] 0 (by omega) (by omega) (by decide) (fun x hx => by cases hx) (by omega) (by omega) (by rw [List.nil_append]; rfl) (by rw [Int.zero_add]; rfl))) own.length 0 (by omega) (by omega))
            · simp only [spec_LotsScale.j1]
              rw [if_neg (by decide), if_neg (by omega), if_neg (by omega)]
              rfl
            · subst hL
              exact Ev_bind (merge_s rest _ (by omega)) (Ev.now _)
    · rw [if_neg (fun g => hq g.2)]
      exact Ev.congr (fun k => by rw [if_pos h, E1.some_s, Option.bind_some, decide_eq_false hq]; rfl) bad
  · rw [if_neg (fun g => h g.1)]
    exact Ev.congr (fun k => by rw [if_neg h]) bad
theorem scale_i (l : List SL) (a b q : Int) (hl : l.length ≤ 1048576) : Ev (fun k => impl_LotsScale.f k l a b q) (scaleR l a b q) := by
  unfold impl_LotsScale.f scaleR
  have okf : impl_LotsOk.f l = some (impl_LotsOk.ok l) := by
    unfold impl_LotsOk.f
    rw [if_pos (by omega)]
  have bad : Ev (fun k => impl_LotsScale.j0 k l a b q true) (([] : List SL), (1 : Int)) := Ev_one fun k => by
    simp only [impl_LotsScale.j0]
    rw [if_pos trivial]
  by_cases h : impl_LotsOk.ok l = true
  · by_cases hq : 0 ≤ q ∧ q ≤ 1000000000000000
    · rw [if_pos ⟨h, hq⟩]
      have hR := (ok_iff l).1 h
      have hO := own_of hR a b
      refine Ev.congr (f := fun k => impl_LotsScale.j0 k l a b q false) (fun k => by rw [okf, Option.bind_some, if_pos h, in_i, Option.bind_some, decide_eq_true hq]; rfl) ?_
      have hf : impl_lotsOf.f l a b = some (ofL a b l) := by
        unfold impl_lotsOf.f
        rw [if_pos (by omega)]
        rfl
      have c1 : impl_Lot_55.f l = some l := by
        unfold impl_Lot_55.f
        rw [Option.bind_some, if_pos (by simp; omega), List.nil_append]
      have hwith := fun m => with_i l a b m m hl
      have hlen := hO.len
      obtain ⟨own, ho⟩ : ∃ own, own = ofL a b l := ⟨_, rfl⟩
      rw [← ho] at hO hf hlen ⊢
      refine Ev.step (f := fun k => if (own.length : Int) = 0 then impl_LotsScale.j1 k l a b q l own (q != 0) else impl_LotsScale.j1 k l a b q l own false) (fun k => ?_) ?_
      · simp only [impl_LotsScale.j0]
        rw [if_neg (by decide), c1, Option.bind_some, hf, Option.bind_some]
      · by_cases h0 : own.length = 0
        · rw [if_pos h0]
          refine Ev.congr (fun k => if_pos (by omega)) ?_
          by_cases g : q = 0
          · rw [if_pos g]
            exact Ev_one fun k => by
              simp only [impl_LotsScale.j1]
              rw [g, if_neg (by decide), if_pos (by omega)]
          · rw [if_neg g]
            exact Ev_one fun k => by
              simp only [impl_LotsScale.j1]
              rw [if_pos (bne_iff_ne.2 g)]
        · rw [if_neg h0]
          refine Ev.congr (fun k => if_neg (by omega)) ?_
          by_cases h4 : 40 < own.length
          · rw [if_pos h4]
            exact Ev_one fun k => by
              simp only [impl_LotsScale.j1]
              rw [if_neg (by decide), if_neg (by omega), if_pos (by omega)]
          · rw [if_neg h4]
            have hsh := W4.shares_i q (wts own)
            rw [shares_wts hO h0 (by omega) q hq] at hsh
            have hpl : own.length = (W6.parts q (wts own)).length := by rw [W6.parts_length, wts_len]
            have hsl := scl_len own (W6.parts q (wts own))
            refine Ev.step (fun k => ?_) (wts_i l a b own q _ hlen (Ev_bind hsh (scale_l1i l a b own _ _ hpl hlen hO.form (fun L hL => ?_) own.length 0 [] 0 (by omega) (by omega) (by decide) (fun x hx => by cases hx) (by omega) (by omega) (by rw [List.nil_append]; rfl) (by rw [Int.zero_add]; rfl))) own.length 0 (by omega) (by omega))
            · simp only [impl_LotsScale.j1]
              rw [if_neg (by decide), if_neg (by omega), if_neg (by omega)]
              rfl
            · subst hL
              have hw := hwith (scl own (W6.parts q (wts own))) (by omega) (right_pw hR.2.2.1) (List.Perm.refl _) (scl_pw hO _) (scl_key hO _)
              exact Ev_bind (Ev_all_k fun k => hw.1) (Ev.now _)
    · rw [if_neg (fun g => hq g.2)]
      exact Ev.congr (fun k => by rw [okf, Option.bind_some, if_pos h, in_i, Option.bind_some, decide_eq_false hq]; rfl) bad
  · rw [if_neg (fun g => h g.1)]
    exact Ev.congr (fun k => by rw [okf, Option.bind_some, if_neg h]) bad
theorem scale_len (l : List SL) (a b q : Int) : (scaleR l a b q).1.length ≤ l.length := by
  have e3 := (List.filter_append_perm (Own a b) l).length_eq
  rw [List.length_append] at e3
  have e4 : (ofL a b l).length + (outL a b l).length = l.length := e3
  unfold scaleR
  split
  · split
    · split <;> exact Nat.le_refl _
    · split
      · exact Nat.le_refl _
      · show (mergeL _ _).length ≤ _
        rw [merge_len]
        have := scl_len (ofL a b l) (W6.parts q (wts (ofL a b l)))
        omega
  · exact Nat.zero_le _
end Go.Proofs.Ytomanpmffjkkgaa.E9
namespace Go.Proofs.Ytomanpmffjkkgaa.T1
open Go Go.RowKit Go.Proofs.Ytomanpmffjkkgaa.P Go.Proofs.YtomanpmffjkkgaaW.PrintWords Go.Proofs.YtomanpmffjkkgaaW.PrintLast Go.Proofs.Ytomanpmffjkkgaa.EV
def cvLot (x : S34) : S37 := ⟨x.f0, x.f1, x.f2, x.f3, x.f4⟩
theorem sz_Lot  (l : List S34) (left : Int) (h0 : 0 ≤ left) (h1 : left ≤ 1048576) (hm : l.length ≤ 9223372036854775807) : laws_szLotS.f l left = some (if left < (l.length : Int) then -1 else left - l.length) := by
  unfold laws_szLotS.f
  rw [w64_in _ (by omega) (by omega)]
  by_cases h : left < (l.length : Int)
  · rw [if_pos h, if_pos (by omega)]
  · rw [if_neg h, if_neg (by omega)]
theorem rd1_Lot (l : List S34) (i : Nat) : rd_T34 l (i : Int) = l.getD i z34 := by unfold rd_T34; rw [Int.toNat_natCast]
theorem to_Lot  (l : List S34) (hl : l.length ≤ 1048576) : Ev (fun k => laws_toLotS.f k l) (l.map cvLot) := by
  unfold laws_toLotS.f
  have h := Ev_goes (fun k s i => laws_toLotS.l0 k l s i) l.length (fun i s => s.take i ++ (l.drop i).map cvLot) (fun i s => s.length = l.length)
    (fun s hs => Ev_one fun k => by
      simp only [laws_toLotS.l0]
      rw [if_neg (by omega), List.drop_length, List.map_nil, List.append_nil, ← hs, List.take_length])
    (fun i s hi hs => .inr ⟨s.set i (cvLot (l.getD i z34)), by rw [List.length_set]; exact hs, by
        rw [List.take_add_one, List.take_set_of_le (Nat.le_refl i), List.getElem?_set_self (by omega), List.drop_eq_getElem_cons hi, List.map_cons]
        have : l.getD i z34 = l[i] := by rw [List.getD_eq_getElem?_getD, List.getElem?_eq_getElem hi]; rfl
        rw [this]
        simp, fun k => by
        show laws_toLotS.l0 (k + 1) l s (i : Int) = _
        simp only [laws_toLotS.l0]
        rw [if_pos (by omega), if_pos (by omega), w_succ hi (by omega)]
        simp only [laws_toLot.f, Option.bind_some, rd1_Lot]
        rw [if_pos (by omega)]
        simp only [Int.toNat_natCast]
        rfl⟩) l.length 0 (List.replicate l.length z37) (by omega) (by omega) (by simp)
  refine Ev.congr (fun k => ?_) h
  rw [if_pos (by omega), if_pos (by omega)]
  rfl
theorem eq1_Lot (x : S37) : laws_eqLot.f x.f0 x.f1 x.f2 x.f3 x.f4 x.f0 x.f1 x.f2 x.f3 x.f4 = some true := by unfold laws_eqLot.f; simp
theorem eq_Lot (l : List S37) (hl : l.length ≤ 9223372036854775807) : Ev (fun k => laws_eqLotS.f k l l) true := by
  unfold laws_eqLotS.f
  obtain ⟨r, hr, hiff⟩ := Ev_asks (fun k i => laws_eqLotS.l0 k l l i) l.length (fun _ => True) true
    (Ev_one fun k => by simp only [laws_eqLotS.l0]; rw [if_neg (by omega)])
    (fun i hi => .inl ⟨trivial, fun k => by
      show laws_eqLotS.l0 (k + 1) l l (i : Int) = _
      simp only [laws_eqLotS.l0]
      rw [if_pos (by omega), if_pos (by omega), if_pos (by omega), w_succ hi (by omega)]
      simp only [eq1_Lot, Option.bind_some, if_true]⟩) l.length 0 (by omega) (by omega)
  obtain rfl : r = true := hiff.2 ⟨fun _ _ _ => trivial, rfl⟩
  refine Ev.congr (fun k => ?_) hr
  rw [if_pos rfl]
  rfl
end Go.Proofs.Ytomanpmffjkkgaa.T1
namespace Go.Proofs.Ytomanpmffjkkgaa.M1
open Go Go.RowKit Go.Proofs.Ytomanpmffjkkgaa.P Go.Proofs.YtomanpmffjkkgaaW.PrintWords Go.Proofs.YtomanpmffjkkgaaW.PrintLast Go.Proofs.Ytomanpmffjkkgaa.EV
theorem set_set_getD {α : Type} (l : List α) (i : Nat) (x z : α) (h : i < l.length) : (l.set i x).getD i z = x := by rw [getD_set, if_pos ⟨rfl, h⟩]
theorem set_set_eq {α : Type} (l : List α) (i : Nat) (x y : α) : (l.set i x).set i y = l.set i y := List.set_set ..
def mkLot (c : Int) (n : Nat) : List S37 := (List.range n).map fun (j : Nat) => (⟨c + 5 * (j : Int), c + 5 * (j : Int) + 1, c + 5 * (j : Int) + 2, c + 5 * (j : Int) + 3, c + 5 * (j : Int) + 4⟩ : S37)
theorem mkLot_len (c : Int) (n : Nat) : (mkLot c n).length = n := by unfold mkLot; simp
theorem mkLot_at (c : Int) (n j : Nat) (h : j < n) : (mkLot c n).getD j z37 = ⟨c + 5 * (j : Int), c + 5 * (j : Int) + 1, c + 5 * (j : Int) + 2, c + 5 * (j : Int) + 3, c + 5 * (j : Int) + 4⟩ := by
  unfold mkLot
  rw [List.getD_eq_getElem?_getD, List.getElem?_map, List.getElem?_range h]
  rfl
theorem rdM_Lot (l : List S37) (i : Nat) : rd_T37 l (i : Int) = l.getD i z37 := by unfold rd_T37; rw [Int.toNat_natCast]
theorem mark_Lot (l : List S37) (c : Int) (h0 : 0 ≤ c) (h1 : c ≤ 1000000000000) (hl : l.length ≤ 1048577) : Ev (fun k => laws_markLotS.f k l c) (c + 5 * (l.length : Int), mkLot c l.length) := by
  unfold laws_markLotS.f
  have h := Ev_goes (fun k (s : List S37 × Int) i => laws_markLotS.l0 k s.1 s.2 i) l.length (fun _ _ => (c + 5 * (l.length : Int), mkLot c l.length)) (fun i s => s.1.length = l.length ∧ s.2 = c + 5 * (i : Int) ∧ ∀ j, j < i → s.1.getD j z37 = ⟨c + 5 * (j : Int), c + 5 * (j : Int) + 1, c + 5 * (j : Int) + 2, c + 5 * (j : Int) + 3, c + 5 * (j : Int) + 4⟩)
    (fun s hs => Ev_one fun k => by
      obtain ⟨s1, s2, s3⟩ := hs
      simp only [laws_markLotS.l0]
      rw [if_neg (by omega), s2]
      congr 2
      refine ext_getD z37 (by rw [mkLot_len, s1]) fun i hi => ?_
      rw [s3 i (by omega), mkLot_at _ _ _ (by omega)])
    (fun i s hi hs => by
      obtain ⟨s1, s2, s3⟩ := hs
      obtain ⟨l1, x⟩ := s
      dsimp only at s1 s2 s3
      refine .inr ⟨(l1.set i (⟨c + 5 * (i : Int), c + 5 * (i : Int) + 1, c + 5 * (i : Int) + 2, c + 5 * (i : Int) + 3, c + 5 * (i : Int) + 4⟩ : S37), c + 5 * ((i + 1 : Nat) : Int)), ⟨by rw [List.length_set]; exact s1, rfl, fun j hj => ?_⟩, rfl, fun k => ?_⟩
      · rw [getD_set]
        by_cases e : i = j
        · subst e
          rw [if_pos ⟨rfl, by omega⟩]
        · rw [if_neg (fun g => e g.1)]
          exact s3 j (by omega)
      · show laws_markLotS.l0 (k + 1) l1 x (i : Int) = _
        simp only [laws_markLotS.l0]
        rw [if_pos (by omega), if_pos (by omega), w_succ hi (by omega)]
        simp only [Option.bind_some, rdM_Lot, Int.toNat_natCast, set_set_eq, set_set_getD l1 i _ z37 (show i < l1.length by omega)]
        subst s2
        have w0 : wrap64 (c + 5 * (i : Int) + 1) = c + 5 * (i : Int) + 1 := by unfold wrap64; omega
        have w1 : wrap64 (c + 5 * (i : Int) + 1 + 1) = c + 5 * (i : Int) + 2 := by unfold wrap64; omega
        have w2 : wrap64 (c + 5 * (i : Int) + 2 + 1) = c + 5 * (i : Int) + 3 := by unfold wrap64; omega
        have w3 : wrap64 (c + 5 * (i : Int) + 3 + 1) = c + 5 * (i : Int) + 4 := by unfold wrap64; omega
        have w4 : wrap64 (c + 5 * (i : Int) + 4 + 1) = c + 5 * (i : Int) + 5 := by unfold wrap64; omega
        simp only [w0, w1, w2, w3, w4]
        have e2 : c + 5 * ((i + 1 : Nat) : Int) = c + 5 * (i : Int) + 5 := by omega
        rw [e2]) l.length 0 (l, c) (by omega) (by omega) ⟨rfl, by omega, fun j hj => by omega⟩
  exact h
theorem held_Lot (n : Nat) (c : Int) (h0 : 0 ≤ c) (h1 : c ≤ 1000000000000) (hl : n ≤ 1048577) : Ev (fun k => laws_heldLotS.f k (mkLot c n) c) (c + 5 * (n : Int)) := by
  unfold laws_heldLotS.f
  have h := Ev_goes (fun k (s : Int) i => laws_heldLotS.l0 k (mkLot c n) s i) n (fun _ _ => c + 5 * (n : Int)) (fun i s => s = c + 5 * (i : Int))
    (fun s hs => Ev_one fun k => by
      simp only [laws_heldLotS.l0]
      rw [if_neg (by rw [mkLot_len]; omega), hs])
    (fun i s hi hs => by
      refine .inr ⟨c + 5 * ((i + 1 : Nat) : Int), rfl, rfl, fun k => ?_⟩
      show laws_heldLotS.l0 (k + 1) (mkLot c n) s (i : Int) = _
      subst hs
      simp only [laws_heldLotS.l0]
      rw [if_pos (by rw [mkLot_len]; omega), if_pos (by omega), w_succ hi (by omega)]
      simp only [rdM_Lot, mkLot_at c n i hi]
      have w0 : wrap64 (c + 5 * (i : Int) + 1) = c + 5 * (i : Int) + 1 := by unfold wrap64; omega
      have w1 : wrap64 (c + 5 * (i : Int) + 1 + 1) = c + 5 * (i : Int) + 2 := by unfold wrap64; omega
      have w2 : wrap64 (c + 5 * (i : Int) + 2 + 1) = c + 5 * (i : Int) + 3 := by unfold wrap64; omega
      have w3 : wrap64 (c + 5 * (i : Int) + 3 + 1) = c + 5 * (i : Int) + 4 := by unfold wrap64; omega
      have w4 : wrap64 (c + 5 * (i : Int) + 4 + 1) = c + 5 * (i : Int) + 5 := by unfold wrap64; omega
      simp only [w0, w1, w2, w3, w4]
      have e2 : c + 5 * ((i + 1 : Nat) : Int) = c + 5 * (i : Int) + 5 := by omega
      rw [if_pos trivial, if_pos trivial, if_pos trivial, if_pos trivial, if_pos trivial, e2]) n 0 c (by omega) (by omega) (by omega)
  exact h
end Go.Proofs.Ytomanpmffjkkgaa.M1
namespace Go.Proofs.Ytomanpmffjkkgaa.Pure
open Go Go.RowKit Go.Proofs.Ytomanpmffjkkgaa.P Go.Proofs.YtomanpmffjkkgaaW.PrintWords Go.Proofs.YtomanpmffjkkgaaW.PrintLast Go.Proofs.Ytomanpmffjkkgaa.EV Go.Proofs.Ytomanpmffjkkgaa.I1 Go.Proofs.Ytomanpmffjkkgaa.E1 Go.Proofs.Ytomanpmffjkkgaa.E9 Go.Proofs.Ytomanpmffjkkgaa.T1 Go.Proofs.Ytomanpmffjkkgaa.M1
theorem FnExactLotsScale : ∀ (l0 : List (S34)) (a1 : Int) (a2 : Int) (a3 : Int), l0.length ≤ 9223372036854775807 → (∀ x ∈ l0, (Lit.int .i64 x.f0).wf = true ∧ (Lit.int .i64 x.f1).wf = true ∧ (Lit.int .i64 x.f2).wf = true ∧ (Lit.int .i64 x.f3).wf = true ∧ (Lit.int .i64 x.f4).wf = true) → (Lit.int .i64 a1).wf = true → (Lit.int .i64 a2).wf = true → (Lit.int .i64 a3).wf = true → ∃ k, laws_FnExactLotsScale.f k l0 a1 a2 a3 = some true := by
  intro l b0 b1 b2 hm0 _ _ _ _
  refine Ev.rounds ?_
  unfold laws_FnExactLotsScale.f
  by_cases hl : 1048576 < l.length
  · exact Ev_all_k fun k => by rw [sz_Lot l 1048576 (by decide) (by decide) hm0, if_pos (by omega), Option.bind_some, if_pos (by decide)]
  · have hm : l.length ≤ 1048576 := by omega
    have hc : (l.map cvLot).length ≤ 1048576 := by rw [List.length_map]; exact hm
    refine Ev.congr (fun k => by rw [sz_Lot l 1048576 (by decide) (by decide) (by omega), if_neg (by omega), Option.bind_some, if_neg (by omega)]) ?_
    obtain ⟨o, ho⟩ : ∃ o, o = scaleR (l.map cvLot) b0 b1 b2 := ⟨_, rfl⟩
    have hS : Ev (fun k => spec_LotsScale.f k (l.map cvLot) b0 b1 b2) o := by rw [ho]; exact scale_s (l.map cvLot) b0 b1 b2 hc
    have hI : Ev (fun k => impl_LotsScale.f k (l.map cvLot) b0 b1 b2) o := by rw [ho]; exact scale_i (l.map cvLot) b0 b1 b2 hc
    have ol : o.1.length ≤ 1048577 := by have := scale_len (l.map cvLot) b0 b1 b2; rw [ho]; omega
    have hb : (o.2 != o.2) = false := by simp
    refine Ev_bind (to_Lot l hm) (Ev_bind hS (Ev_bind (to_Lot l hm) (Ev_bind hI (Ev_bind (eq_Lot o.1 (by omega)) ?_))))
    refine Ev.congr (fun k => by rw [if_pos rfl, hb]) ?_
    refine Ev.step (fun k => by simp only [laws_FnExactLotsScale.j0]; rw [if_neg (by decide)]) ?_
    refine Ev_bind (to_Lot l hm) (Ev_bind (eq_Lot _ (by omega)) ?_)
    refine Ev.congr (fun k => if_pos rfl) ?_
    refine Ev_bind (mark_Lot _ 1 (by decide) (by decide) (by omega)) ?_
    refine Ev.congr (fun k => if_neg (by show ¬ ((1 : Int) + 5 * ((l.map cvLot).length : Int) < 0); omega)) ?_
    refine Ev_bind (eq_Lot o.1 (by omega)) ?_
    refine Ev.congr (fun k => by rw [if_pos rfl, hb]) ?_
    refine Ev.step (fun k => by simp only [laws_FnExactLotsScale.j1]; rw [if_neg (by decide)]) ?_
    refine Ev_bind (mark_Lot o.1 1 (by decide) (by decide) ol) (Ev_bind (held_Lot o.1.length 1 (by decide) (by decide) ol) ?_)
    refine Ev.congr (fun k => (if_neg (by show ¬ ((1 : Int) + 5 * (o.1.length : Int) < 0); omega)).trans (if_pos rfl)) ?_
    refine Ev_bind (to_Lot l hm) (Ev_bind hI (Ev_bind (eq_Lot o.1 (by omega)) ?_))
    refine Ev.congr (fun k => by rw [if_pos rfl, hb]) ?_
    refine Ev.step (fun k => by simp only [laws_FnExactLotsScale.j2]; rw [if_neg (by decide)]) ?_
    refine Ev_bind (held_Lot o.1.length 1 (by decide) (by decide) ol) ?_
    exact Ev_all_k fun k => by rw [if_neg (by omega), if_pos rfl]
end Go.Proofs.Ytomanpmffjkkgaa.Pure
namespace Go.Proofs.Ytomanpmffjkkgaa.RS
open Go Go.ChangeShapes Go.WideShapes Go.Deep Go.RowKit Go.Proofs.YtomanpmffjkkgaaW.PrintWords
def allInts (P : Program) (fs : Array Field) : Bool := (List.range fs.size).all fun i => match fs[i]? with
  | some f => (match P.underlying f.type with | some (.int .i64) => true | _ => false)
  | none => false
theorem allInts_of {P : Program} {fs : Array Field} (h : allInts P fs = true) : ∀ (i : Nat) (f : Field), fs[i]? = some f → P.underlying f.type = some (.int .i64) := by
  intro i f hi
  have hlt : i < fs.size := (Array.getElem?_eq_some_iff.1 hi).1
  have z := List.all_eq_true.1 h i (List.mem_range.2 hlt)
  simp only [hi] at z
  split at z
  · assumption
  · cases z
section
variable {H : Type} {enc : TypeId × Value → H} {P : Program} {w : World} {base : Nat} {spare : Nat → Bool} {held : Bool}
theorem open_rows {t e : TypeId} {fs : Array Field} {fuel : Nat} {v : Value} {x : DataW H × List MemPlace} (ht : P.underlying t = some (.slice e)) (he : P.underlying e = some (.struct fs))
    (hone : oneCellFields P fs = true) (hint : allInts P fs = true) (hC : P.cellsOf e = fs.size) (h : DataW.trod enc P w base spare held fuel t [v] = some x) :
    ∃ (A : Option Addr) (len cap : Nat) (X : Nat → Nat → Int), v = .slice A len cap ∧ len ≤ cap ∧ cap ≤ maxLen ∧
      (0 < len → ∃ ad, A = some ad ∧ ∀ i, i < len → ∀ j, j < fs.size → w.cell? (ad.add (i * fs.size + j)) = some (.int .i64 (X i j)) ∧ (Lit.int .i64 (X i j)).wf = true) := by
  rcases open_slice ht h with ⟨hcs, _⟩ | ⟨a, len, cap, m, n, D, Pl, hcs, _, hl, hm, hmm, _, hi⟩
  · simp only [List.cons.injEq, and_true] at hcs
    exact ⟨none, 0, 0, fun _ _ => 0, hcs, Nat.le_refl _, Nat.zero_le _, fun hp => absurd hp (Nat.lt_irrefl 0)⟩
  · simp only [List.cons.injEq, and_true] at hcs
    have hmle : len ≤ m := by rw [hmm]; split <;> omega
    have key : ∀ i, i < len → ∃ f : Nat → Int, ∀ j, j < fs.size → w.cell? (a.add (i * fs.size + j)) = some (.int .i64 (f j)) ∧ (Lit.int .i64 (f j)).wf = true := by
      intro i him
      obtain ⟨cs', hc, ht'⟩ := hi i (by omega)
      rw [hC] at hc
      obtain ⟨ys, n', hn', hy, hlen, hyl, hf⟩ := DataW.trod_struct he ht'
      obtain ⟨_, hcl, hat⟩ := World.cells?_some hc
      refine choose_lt (α := Int) (n := fs.size) (p := fun j q => w.cell? (a.add (i * fs.size + j)) = some (.int .i64 q) ∧ (Lit.int .i64 q).wf = true) fun j hj => ?_
      have hfj : fs[j]? = some fs[j] := Array.getElem?_eq_getElem hj
      obtain ⟨ho, hk⟩ := hone_of hone j _ hfj
      have h1 := hf j _ hfj
      rw [ho, hk, take1_drop cs' j undef (by omega)] at h1
      have hys : ys[j]? = some (ys[j]'(by omega)) := List.getElem?_eq_getElem (by omega)
      rw [hys] at h1
      obtain ⟨q, hq, _, hwf⟩ := DataW.trod_int (allInts_of hint j _ hfj) h1
      simp only [List.cons.injEq, and_true] at hq
      have hcell := hat j (by omega)
      rw [List.getElem?_eq_getElem (by omega)] at hcell
      have hgd : cs'.getD j undef = cs'[j]'(by omega) := by
        rw [List.getD_eq_getElem?_getD, List.getElem?_eq_getElem (by omega), Option.getD_some]
      rw [hgd] at hq
      exact ⟨q, by rw [← Go.Deep.add_add, hcell, hq], hwf⟩
    obtain ⟨X, hX⟩ := choose_lt (α := Nat → Int) (n := len) (p := fun i f => ∀ j, j < fs.size → w.cell? (a.add (i * fs.size + j)) = some (.int .i64 (f j)) ∧ (Lit.int .i64 (f j)).wf = true) key
    exact ⟨some a, len, cap, X, hcs, hl, hm, fun _ => ⟨a, rfl, fun i him => hX i him⟩⟩
end
theorem getD_range {α : Type} (n : Nat) (f : Nat → α) (i : Nat) (p : α) (h : ((List.range n).map f)[i]? = some p) : i < n ∧ p = f i := by
  have hi := (List.getElem?_eq_some_iff.1 h).1
  simp only [List.length_map, List.length_range] at hi
  refine ⟨hi, ?_⟩
  rw [List.getElem?_map, List.getElem?_range hi] at h
  simpa using h.symm
theorem mem_map_range {α : Type} {n : Nat} {f : Nat → α} {x : α} (h : x ∈ (List.range n).map f) : ∃ i, i < n ∧ x = f i := by
  obtain ⟨i, hi, rfl⟩ := List.mem_map.1 h
  exact ⟨i, List.mem_range.1 hi, rfl⟩
end Go.Proofs.Ytomanpmffjkkgaa.RS
namespace Go.Proofs.Ytomanpmffjkkgaa.RT
open Go Go.RowKit Go.Proofs.Ytomanpmffjkkgaa.P Go.Proofs.YtomanpmffjkkgaaW.PrintWords Go.Proofs.YtomanpmffjkkgaaW.PrintLast
theorem row34 {W : World} {A : Option Addr} {len : Nat} {X : Nat → Nat → Int} (hm : len ≤ maxLen) (hx : 0 < len → ∃ ad, A = some ad ∧ ∀ i, i < len → ∀ j, j < 5 → W.cell? (ad.add (i * 5 + j)) = some (.int .i64 (X i j)) ∧ (Lit.int .i64 (X i j)).wf = true) :
    ∃ l : List S34, len = l.length ∧ Kd.C k34 W A l.length l ∧ ∀ x ∈ l, (Lit.int .i64 x.f0).wf = true ∧ (Lit.int .i64 x.f1).wf = true ∧ (Lit.int .i64 x.f2).wf = true ∧ (Lit.int .i64 x.f3).wf = true ∧ (Lit.int .i64 x.f4).wf = true := by
  refine ⟨(List.range len).map fun i => (⟨X i 0, X i 1, X i 2, X i 3, X i 4⟩ : S34), by simp, ⟨rfl, by simp only [List.length_map, List.length_range]; exact hm, fun hn => ?_⟩, fun x hxm => ?_⟩
  · obtain ⟨ad, e, hc⟩ := hx (by simpa using hn)
    refine ⟨ad, e, fun j p hj => ⟨_, rfl, k34_mk W p, fun i u hu => ?_⟩⟩
    obtain ⟨hjl, rfl⟩ := RS.getD_range _ _ _ _ hj
    have hi : i < 5 := (List.getElem?_eq_some_iff.1 hu).1
    have hcell := (hc j hjl i hi).1
    match i, hi, hu, hcell with
    | 0, _, hu, hcell => exact hcell.trans hu
    | 1, _, hu, hcell => exact hcell.trans hu
    | 2, _, hu, hcell => exact hcell.trans hu
    | 3, _, hu, hcell => exact hcell.trans hu
    | 4, _, hu, hcell => exact hcell.trans hu
  · obtain ⟨i, hi, rfl⟩ := RS.mem_map_range hxm
    obtain ⟨ad, e, hc⟩ := hx (by omega)
    exact ⟨(hc i hi 0 (by decide)).2, (hc i hi 1 (by decide)).2, (hc i hi 2 (by decide)).2, (hc i hi 3 (by decide)).2, (hc i hi 4 (by decide)).2⟩
end Go.Proofs.Ytomanpmffjkkgaa.RT
namespace Go.Proofs.Ytomanpmffjkkgaa.fnExactLotsScale
open Go.ChangeShapes Go.WideShapes Go.ChangeAt Go.RowKit Go.Proofs.YtomanpmffjkkgaaW.PrintWords
open Go.ChangeMaps (open_string shut_string)
set_option linter.unusedVariables false
theorem own : ownKnob Try.prog.godebug = none := by kernel_rfl
theorem laidOut : laidOutB Try.prog = true := by kernel_rfl
set_option maxRecDepth 100000 in
theorem lifted (os : Os) (started : os.Started) (H : Type) (enc : TypeId × Value → H) :
    ReturnsInHanded {} Try.checked os 12 .any (Rows.fnExactLotsScaleSpec.pre6 enc Try.prog Try.f12 Rows.fnExactLotsScaleRow.domain false) (Rows.fnExactLotsScaleSpec.post enc Try.prog Try.f12 false true false false) := by
  refine returnsInHanded_of_change_sized (C := Try.checked) own started (by kernel_rfl) Try.func12
    (ChangeSpec.witness6 (enc := enc) (C := Try.checked) false ⟨#[], #[.slice none 0 0, .int .i64 0, .int .i64 0, .int .i64 0], []⟩ 8 (by kernel_rfl) (by kernel_rfl) (by kernel_rfl) (by kernel_rfl)) ?_
  intro W base args ds gs before hval0 hW hcnd hsz0 _
  have hsz : (DataW.weightsEach Try.prog (Try.f12.params.toList ++ Rows.fnExactLotsScaleSpec.plain.varTypes Try.prog) (ds ++ gs)).all (· ≤ reachBytes) = true := hsz0
  have hval : ∀ (j : Nat) t v, Try.f12.params[j]? = some t → args[j]? = some v → Value.okWide Try.prog W .any base t v := hval0
  have hW' := hW
  obtain ⟨p, q, hA0, hV, rfl, hfz, hnd⟩ := hW
  have hA : DataW.TrodAll enc Try.prog W 0 (fun _ => true) true Try.f12.params.toList args.toList ds p := hA0
  rw [Try.params12] at hA hval hsz
  obtain ⟨v0, vs0, d0, ds0, p0, q0, hargs, rfl, rfl, h0, r0⟩ := trodAll_cons hA
  obtain ⟨v1, vs1, d1, ds1, p1, q1, rfl, rfl, rfl, h1, r1⟩ := trodAll_cons r0
  obtain ⟨v2, vs2, d2, ds2, p2, q2, rfl, rfl, rfl, h2, r2⟩ := trodAll_cons r1
  obtain ⟨v3, vs3, d3, ds3, p3, q3, rfl, rfl, rfl, h3, r3⟩ := trodAll_cons r2
  obtain ⟨rfl, rfl, rfl⟩ := trodAll_nil r3
  obtain rfl : args = #[v0, v1, v2, v3] := by cases args; simp_all
  obtain ⟨rfl, rfl⟩ := trodVars_none hV
  obtain ⟨a0, len0, cap0, rfl⟩ := okWide_slice Try.underlying22 (hval 0 22 v0 rfl rfl)
  have k0 := h0
  have lt0 : ∀ x ∈ p0, x.block < W.heap.size := by obtain ⟨m, hm⟩ := k0; exact DataW.trod_lt m _ _ _ hm
  obtain ⟨fu0, hf0⟩ := h0
  obtain ⟨A0, n0, c0, X0, hv0, hl0, hm0, hx0⟩ := RS.open_rows Try.underlying22 Try.underlying34 (by kernel_rfl) (by kernel_rfl) (by kernel_rfl) (v := .slice a0 len0 cap0) hf0
  obtain ⟨rfl, rfl, rfl⟩ := Value.slice.inj hv0
  obtain ⟨l0, e0, hr0, hw0⟩ := RT.row34 (Nat.le_trans hl0 hm0) hx0
  subst e0
  obtain ⟨a1, rfl, rfl, rfl, w1⟩ := open_int Try.underlying3 (hval 1 3 v1 rfl rfl) h1
  obtain ⟨a2, rfl, rfl, rfl, w2⟩ := open_int Try.underlying3 (hval 2 3 v2 rfl rfl) h2
  obtain ⟨a3, rfl, rfl, rfl, w3⟩ := open_int Try.underlying3 (hval 3 3 v3 rfl rfl) h3
  clear hA0 hval0 hsz0 hsz
  obtain ⟨k, hpure⟩ := Pure.FnExactLotsScale l0 a1 a2 a3 (Kd.C_max hr0) hw0 w1 w2 w3
  refine (P.laws_FnExactLotsScale.calls k _ _ l0 a1 a2 a3 true W hr0 hl0 hpure).mono fun e W' hpost => ?_
  obtain ⟨he, hd⟩ := hpost
  have bel : Below W.heap.size W W' := hd
  subst he
  exact ⟨_, rfl, _, _, _, [], _, [], hW', trodAll_mk1 (shut_bool Try.underlying4 _), (trodAll_cons_mk (Below.trod laidOut (by kernel_rfl) (of_decide_eq_true (by kernel_rfl)) k0 bel lt0) (trodAll_cons_mk (shut_int Try.underlying3 w1) (trodAll_cons_mk (shut_int Try.underlying3 w2) (trodAll_cons_mk (shut_int Try.underlying3 w3) trodAll_mk0)))), rfl, bel.frame _, fun h => by cases h⟩
theorem over : Rows.fnExactLotsScaleRow.holds Try.pinned (OpenSpec.ofChange Rows.fnExactLotsScaleSpec) :=
  OpenClaim.holds_of_wide 12 Try.f12 rfl rfl rfl rfl rfl rfl rfl ⟨rfl, rfl, rfl, rfl, rfl⟩ rfl rfl rfl rfl rfl (by kernel_rfl) Try.func12 (by kernel_rfl)
    (of_decide_eq_true (by kernel_rfl)) (by unfold Func.isWrapper; first | (rw [if_pos (by decide +kernel)]; kernel_rfl) | (rw [if_neg (by decide +kernel)]; exact ⟨rfl, rfl⟩))
    (fun os started H enc _ => lifted os started H enc)
theorem proved : Rows.FnExactLotsScaleSaid := over
#print axioms proved
end Go.Proofs.Ytomanpmffjkkgaa.fnExactLotsScale
namespace Go.Proofs.Ytomanpmffjkkgaa
theorem fnExactLotsScale_holds : Rows.FnExactLotsScaleSaid := fnExactLotsScale.proved
end Go.Proofs.Ytomanpmffjkkgaa
