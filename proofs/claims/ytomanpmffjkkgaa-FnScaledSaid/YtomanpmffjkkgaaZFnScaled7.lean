/- Drawn lots that are scaled have together just the new number of pieces, and cost what they cost, as long as one is left; no condition. -/
import Derived.Test.YtomanpmffjkkgaaZFnScaled6
import Derived.SizedLaws
import Derived.ChangeSlices
import Derived.Test.YtomanpmffjkkgaaRows
import Derived.WalkKit
import Derived.ProofKit
import Derived.OpenShut
import Derived.ShutString
import Derived.ChangeOld
import Derived.Below
namespace Go.Proofs.Ytomanpmffjkkgaa.EV
end Go.Proofs.Ytomanpmffjkkgaa.EV
namespace Go.Proofs.Ytomanpmffjkkgaa.S2
end Go.Proofs.Ytomanpmffjkkgaa.S2
namespace Go.Proofs.Ytomanpmffjkkgaa.S3
end Go.Proofs.Ytomanpmffjkkgaa.S3
namespace Go.Proofs.Ytomanpmffjkkgaa.S4
end Go.Proofs.Ytomanpmffjkkgaa.S4
namespace Go.Proofs.Ytomanpmffjkkgaa.S5
end Go.Proofs.Ytomanpmffjkkgaa.S5
namespace Go.Proofs.Ytomanpmffjkkgaa.P
end Go.Proofs.Ytomanpmffjkkgaa.P
namespace Go.Proofs.Ytomanpmffjkkgaa.I1
end Go.Proofs.Ytomanpmffjkkgaa.I1
namespace Go.Proofs.Ytomanpmffjkkgaa.TI
end Go.Proofs.Ytomanpmffjkkgaa.TI
namespace Go.Proofs.Ytomanpmffjkkgaa.W1
end Go.Proofs.Ytomanpmffjkkgaa.W1
namespace Go.Proofs.Ytomanpmffjkkgaa.W2
end Go.Proofs.Ytomanpmffjkkgaa.W2
namespace Go.Proofs.Ytomanpmffjkkgaa.S7
end Go.Proofs.Ytomanpmffjkkgaa.S7
namespace Go.Proofs.Ytomanpmffjkkgaa.A2
end Go.Proofs.Ytomanpmffjkkgaa.A2
namespace Go.Proofs.Ytomanpmffjkkgaa.W3
end Go.Proofs.Ytomanpmffjkkgaa.W3
namespace Go.Proofs.Ytomanpmffjkkgaa.W4
end Go.Proofs.Ytomanpmffjkkgaa.W4
namespace Go.Proofs.Ytomanpmffjkkgaa.N1
end Go.Proofs.Ytomanpmffjkkgaa.N1
namespace Go.Proofs.Ytomanpmffjkkgaa.E1
end Go.Proofs.Ytomanpmffjkkgaa.E1
namespace Go.Proofs.Ytomanpmffjkkgaa.E2
end Go.Proofs.Ytomanpmffjkkgaa.E2
namespace Go.Proofs.Ytomanpmffjkkgaa.E3
end Go.Proofs.Ytomanpmffjkkgaa.E3
namespace Go.Proofs.Ytomanpmffjkkgaa.E5
end Go.Proofs.Ytomanpmffjkkgaa.E5
namespace Go.Proofs.Ytomanpmffjkkgaa.E6
end Go.Proofs.Ytomanpmffjkkgaa.E6
namespace Go.Proofs.Ytomanpmffjkkgaa.E7
end Go.Proofs.Ytomanpmffjkkgaa.E7
namespace Go.Proofs.Ytomanpmffjkkgaa.E8
end Go.Proofs.Ytomanpmffjkkgaa.E8
namespace Go.Proofs.Ytomanpmffjkkgaa.D1
end Go.Proofs.Ytomanpmffjkkgaa.D1
namespace Go.Proofs.Ytomanpmffjkkgaa.E4
end Go.Proofs.Ytomanpmffjkkgaa.E4
namespace Go.Proofs.Ytomanpmffjkkgaa.E9
end Go.Proofs.Ytomanpmffjkkgaa.E9
namespace Go.Proofs.Ytomanpmffjkkgaa.D5
end Go.Proofs.Ytomanpmffjkkgaa.D5
namespace Go.Proofs.Ytomanpmffjkkgaa.S5
open Go Go.RowKit Go.Proofs.Ytomanpmffjkkgaa Go.Proofs.YtomanpmffjkkgaaW.PrintWords Go.Proofs.Ytomanpmffjkkgaa.EV Go.Proofs.Ytomanpmffjkkgaa.S2 Go.Proofs.Ytomanpmffjkkgaa.S3 Go.Proofs.Ytomanpmffjkkgaa.S4
theorem rdd (l : List Int) (i : Nat) : rd l (i : Int) = l.getD i default := by unfold rd; rw [Int.toNat_natCast]; rfl
theorem wadd (a b : Nat) (h : a + b ≤ 1000000) : wrap64 ((a : Int) + (b : Int)) = ((a + b : Nat) : Int) := by unfold wrap64; omega
theorem wsub (a b : Nat) (h : b ≤ a) (h' : a ≤ 1000000) : wrap64 ((a : Int) - (b : Int)) = ((a - b : Nat) : Int) := by unfold wrap64; omega
theorem wone (a : Nat) (h : a ≤ 1000000) : wrap64 ((a : Int) + 1) = ((a + 1 : Nat) : Int) := by unfold wrap64; omega
theorem wpre (a : Nat) (h : a ≤ 1000000) : wrap64 (((a + 1 : Nat) : Int) - 1) = (a : Int) := by unfold wrap64; omega
theorem half (a b : Nat) (h : a + b ≤ 1000000) : wrap64 ((IntKind.u64.wrap (wrap64 ((a : Int) + (b : Int)))) / 2) = (((a + b) / 2 : Nat) : Int) := by
  rw [wadd a b h, L1.u64w_id _ (by omega) (by omega)]
  unfold wrap64
  omega
theorem swap_set (l : List Int) (i j : Nat) : (l.set (i : Int).toNat (rd l (j : Int))).set (j : Int).toNat (rd l (i : Int)) = swap1 l i j := by
  unfold swap1
  rw [rdd, rdd, Int.toNat_natCast, Int.toNat_natCast]
def In (p : Int → Prop) (n : Nat) (l : List Int) : Prop := l.length = n ∧ ∀ e ∈ l, p e
section
variable {p : Int → Prop} {n : Nat} {l : List Int}
theorem In.get (h : In p n l) {i : Nat} (hi : i < n) : p (l.getD i default) := h.2 _ (getD_mem (by rw [h.1]; exact hi))
theorem In.swap (h : In p n l) {i j : Nat} (hi : i < n) (hj : j < n) : In p n (swap1 l i j) := by
  unfold swap1
  refine ⟨by rw [List.length_set, List.length_set]; exact h.1, fun e he => ?_⟩
  rcases List.mem_or_eq_of_mem_set he with he | rfl
  · rcases List.mem_or_eq_of_mem_set he with he | rfl
    · exact h.2 e he
    · exact h.get hj
  · exact h.get hi
theorem In.swapR (h : In p n l) {a b : Nat} : ∀ (q : Nat), a + q ≤ n → b + q ≤ n → In p n (swapR l a b q)
  | 0, _, _ => h
  | q + 1, ha, hb => (In.swapR h q (by omega) (by omega)).swap (by omega) (by omega)
end
theorem swapR_ev {p : Int → Prop} {n : Nat} (l : List Int) (a b q : Nat) (z : Int) (h : In p n l) (ha : a + q ≤ n) (hb : b + q ≤ n) (hn : n ≤ 1000) : Ev (fun k => SB.slices_swapRangeCmpFunc_int.f k l a b q z) (swapR l a b q) := by
  unfold SB.slices_swapRangeCmpFunc_int.f
  have key : ∀ (d i : Nat), q - i = d → i ≤ q → Ev (fun k => SB.slices_swapRangeCmpFunc_int.l0 k (swapR l a b i) a b q (i : Int)) (swapR l a b q) := by
    intro d
    induction d with
    | zero =>
      intro i hd hi
      obtain rfl : i = q := by omega
      exact Ev_one fun k => by
        simp only [SB.slices_swapRangeCmpFunc_int.l0]
        rw [if_neg (by omega)]
    | succ d ih =>
      intro i hd hi
      refine Ev.step (f := fun k => SB.slices_swapRangeCmpFunc_int.l0 k (swapR l a b (i + 1)) a b q ((i + 1 : Nat) : Int)) (fun k => ?_) (ih (i + 1) (by omega) (by omega))
      have hlen := (h.swapR (a := a) (b := b) i (by omega) (by omega)).1
      simp only [SB.slices_swapRangeCmpFunc_int.l0]
      rw [if_pos (by omega), wadd b i (by omega), wadd a i (by omega), wone i (by omega), if_pos (by omega), if_pos (by omega), if_pos (by omega), if_pos (by omega), swap_set]
      rfl
  exact key q 0 (by omega) (by omega)
theorem rot_ev {p : Int → Prop} {n : Nat} (hn : n ≤ 1000) (z : Int) : ∀ (k : Nat) (l : List Int) (m i j : Nat), In p n l → i + j ≤ k → 0 < i → 0 < j → i ≤ m → m + j ≤ n → In p n (rot l m k i j) ∧ Ev (fun f => SB.slices_rotateCmpFunc_int.l0 f l m z i j) (rot l m k i j)
  | 0, l, m, i, j, h, hk, hi, hj, hm, hl => by omega
  | k + 1, l, m, i, j, h, hk, hi, hj, hm, hl => by
    by_cases e : i = j
    · subst e
      rw [rot, if_pos rfl]
      refine ⟨h.swapR _ (by omega) (by omega), ?_⟩
      refine Ev.step (f := fun f => (SB.slices_swapRangeCmpFunc_int.f f l ((m - i : Nat) : Int) m i z).bind fun t => some t) (fun f => ?_) (Ev_bind (swapR_ev l (m - i) m i z h (by omega) (by omega) hn) (Ev.now _))
      simp only [SB.slices_rotateCmpFunc_int.l0]
      rw [if_pos trivial, wsub m i (by omega) (by omega)]
    · rw [rot, if_neg e]
      by_cases g : i > j
      · rw [if_pos g]
        have hs := h.swapR (a := m - i) (b := m) j (by omega) (by omega)
        have ih := rot_ev hn z k _ m (i - j) j hs (by omega) (by omega) (by omega) (by omega) (by omega)
        refine ⟨ih.1, ?_⟩
        refine Ev.step (f := fun f => (SB.slices_swapRangeCmpFunc_int.f f l ((m - i : Nat) : Int) m j z).bind fun t => SB.slices_rotateCmpFunc_int.l0 f t m z ((i - j : Nat) : Int) j) (fun f => ?_) (Ev_bind (swapR_ev l (m - i) m j z h (by omega) (by omega) hn) ih.2)
        simp only [SB.slices_rotateCmpFunc_int.l0]
        rw [if_neg (by omega), if_pos (by omega), wsub m i (by omega) (by omega), wsub i j (by omega) (by omega)]
      · rw [if_neg g]
        have hs := h.swapR (a := m - i) (b := m + j - i) i (by omega) (by omega)
        have ih := rot_ev hn z k _ m i (j - i) hs (by omega) (by omega) (by omega) (by omega) (by omega)
        refine ⟨ih.1, ?_⟩
        refine Ev.step (f := fun f => (SB.slices_swapRangeCmpFunc_int.f f l ((m - i : Nat) : Int) ((m + j - i : Nat) : Int) i z).bind fun t => SB.slices_rotateCmpFunc_int.l0 f t m z i ((j - i : Nat) : Int)) (fun f => ?_) (Ev_bind (swapR_ev l (m - i) (m + j - i) i z h (by omega) (by omega) hn) ih.2)
        simp only [SB.slices_rotateCmpFunc_int.l0]
        rw [if_neg (by omega), if_neg (by omega), wsub m i (by omega) (by omega), wadd m j (by omega), wsub (m + j) i (by omega) (by omega), wsub j i (by omega) (by omega)]
def CmpOk (c : X1.Cmp) (cb : Int → Int → Bool) (p : Int → Prop) : Prop := ∀ x y, p x → p y → ∃ t, c x y = some t ∧ (t < 0 ↔ cb x y = true)
section
variable {c : X1.Cmp} {cb : Int → Int → Bool} {p : Int → Prop} {n : Nat}
theorem CmpOk.yes (hc : CmpOk c cb p) {x y : Int} (hx : p x) (hy : p y) (e : cb x y = true) {β : Type} (A B : Option β) : ((c x y).bind fun t => if t < 0 then A else B) = A := by
  obtain ⟨t, ht, hi⟩ := hc x y hx hy
  rw [ht, Option.bind_some, if_pos (hi.2 e)]
theorem CmpOk.no (hc : CmpOk c cb p) {x y : Int} (hx : p x) (hy : p y) (e : ¬ cb x y = true) {β : Type} (A B : Option β) : ((c x y).bind fun t => if t < 0 then A else B) = B := by
  obtain ⟨t, ht, hi⟩ := hc x y hx hy
  rw [ht, Option.bind_some, if_neg (fun h => e (hi.1 h))]
theorem In.insJ {a : Nat} : ∀ (d : Nat) {l : List Int}, In p n l → a + d < n → In p n (insJ cb a d l)
  | 0, l, h, _ => h
  | d + 1, l, h, hd => by
    rw [S4.insJ]
    split
    · exact In.insJ d (h.swap (by omega) (by omega)) (by omega)
    · exact h
theorem In.insI {a : Nat} {l : List Int} (h : In p n l) : ∀ (r : Nat), a + r < n → In p n (insI cb a r l)
  | 0, _ => h
  | r + 1, hr => In.insJ (r + 1) (In.insI h r (by omega)) hr
theorem insJ_ev (hc : CmpOk c cb p) (hn : n ≤ 1000) (a : Nat) (b i : Int) : ∀ (d j : Nat) (l R : List Int), j = a + d → In p n l → a + d < n → Ev (fun k => SB.slices_insertionSortCmpFunc_int.l0 k (insJ cb a d l) a b c (wrap64 (i + 1))) R → Ev (fun k => SB.slices_insertionSortCmpFunc_int.l1 k l a b c i (j : Int)) R
  | 0, j, l, R, e, h, hd, hr => Ev.step (fun k => by
      simp only [SB.slices_insertionSortCmpFunc_int.l1]
      rw [if_neg (by omega)]
      rfl) hr
  | d + 1, j, l, R, e, h, hd, hr => by
    obtain rfl : j = a + d + 1 := by omega
    rw [S4.insJ] at hr
    have hl := h.1
    by_cases g : cb (l.getD (a + d + 1) default) (l.getD (a + d) default) = true
    · rw [if_pos g] at hr
      refine Ev.step (f := fun k => SB.slices_insertionSortCmpFunc_int.l1 k (swap1 l (a + d + 1) (a + d)) a b c i ((a + d : Nat) : Int)) (fun k => ?_) (insJ_ev hc hn a b i d (a + d) _ R rfl (h.swap (by omega) (by omega)) (by omega) hr)
      simp only [SB.slices_insertionSortCmpFunc_int.l1]
      rw [if_pos (by omega), if_pos (by omega), if_pos (by omega), wpre (a + d) (by omega), if_pos (by omega), if_pos (by omega), swap_set, rdd, rdd, hc.yes (h.get (by omega)) (h.get (by omega)) g]
    · rw [if_neg g] at hr
      refine Ev.step (fun k => ?_) hr
      simp only [SB.slices_insertionSortCmpFunc_int.l1]
      rw [if_pos (by omega), if_pos (by omega), if_pos (by omega), wpre (a + d) (by omega), if_pos (by omega), if_pos (by omega), rdd, rdd, hc.no (h.get (by omega)) (h.get (by omega)) g]
theorem ins_ev (hc : CmpOk c cb p) (hn : n ≤ 1000) (l : List Int) (h : In p n l) (a b : Nat) (hab : a ≤ b) (hb : b ≤ n) : Ev (fun k => SB.slices_insertionSortCmpFunc_int.f k l a b c) (insSort cb l a b) := by
  unfold SB.slices_insertionSortCmpFunc_int.f insSort
  have key : ∀ (d r : Nat), b - (a + r + 1) = d → a + r + 1 ≤ b → Ev (fun k => SB.slices_insertionSortCmpFunc_int.l0 k (insI cb a r l) a b c ((a + r + 1 : Nat) : Int)) (insI cb a (b - a - 1) l) := by
    intro d
    induction d with
    | zero =>
      intro r hd hr
      have e : b - a - 1 = r := by omega
      rw [e]
      exact Ev_one fun k => by
        simp only [SB.slices_insertionSortCmpFunc_int.l0]
        rw [if_neg (by omega)]
    | succ d ih =>
      intro r hd hr
      have hi := h.insI (cb := cb) (a := a) r (by omega)
      refine Ev.step (f := fun k => SB.slices_insertionSortCmpFunc_int.l1 k (insI cb a r l) a b c ((a + r + 1 : Nat) : Int) ((a + r + 1 : Nat) : Int)) (fun k => ?_) (insJ_ev hc hn a b _ (r + 1) (a + r + 1) _ _ (by omega) hi (by omega) ?_)
      · simp only [SB.slices_insertionSortCmpFunc_int.l0]
        rw [if_pos (by omega)]
      · rw [wone (a + r + 1) (by omega)]
        exact ih (r + 1) (by omega) (by omega)
  by_cases g : a + 1 ≤ b
  · rw [wone a (by omega)]
    exact key _ 0 rfl (by omega)
  · have e : b - a - 1 = 0 := by omega
    rw [e, wone a (by omega)]
    exact Ev_one fun k => by
      simp only [SB.slices_insertionSortCmpFunc_int.l0]
      rw [if_neg (by omega)]
      rfl
theorem In.insSort {l : List Int} (h : In p n l) (a b : Nat) (hab : a < b ∨ b ≤ a ∧ a < n) (hb : b ≤ n) : In p n (insSort cb l a b) := by
  unfold S4.insSort
  exact h.insI _ (by omega)
theorem bs_range (P : Nat → Bool) : ∀ (k s r : Nat), s ≤ r → s ≤ bs P k s r ∧ bs P k s r ≤ r
  | 0, s, r, h => ⟨Nat.le_refl _, h⟩
  | k + 1, s, r, h => by
    rw [bs]
    split
    · split
      · have := bs_range P k ((s + r) / 2 + 1) r (by omega)
        omega
      · have := bs_range P k s ((s + r) / 2) (by omega)
        omega
    · omega
theorem In.up {l : List Int} (h : In p n l) : ∀ (d q : Nat), q + d < n → In p n (up l q d)
  | 0, _, _ => h
  | d + 1, q, hq => In.up (h.swap (i := q) (j := q + 1) (by omega) (by omega)) d (q + 1) (by omega)
theorem In.down {l : List Int} (h : In p n l) : ∀ (d q : Nat), q < n → d ≤ q → In p n (down l q d)
  | 0, _, _, _ => h
  | d + 1, q, hq, hd => In.down (h.swap (i := q) (j := q - 1) (by omega) (by omega)) d (q - 1) (by omega) (by omega)
theorem up_ev (hn : n ≤ 1000) (i : Nat) : ∀ (d q : Nat) (l : List Int), i = q + 1 + d → In p n l → i ≤ n → Ev (fun k => SB.slices_symMergeCmpFunc_int.l1 k l i q) (up l q d)
  | 0, q, l, e, h, hi => Ev_one fun k => by
      simp only [SB.slices_symMergeCmpFunc_int.l1]
      rw [e, wpre q (by omega), if_neg (by omega)]
      rfl
  | d + 1, q, l, e, h, hi => by
    have hl := h.1
    refine Ev.step (f := fun k => SB.slices_symMergeCmpFunc_int.l1 k (swap1 l q (q + 1)) i ((q + 1 : Nat) : Int)) (fun k => ?_) (up_ev hn i d (q + 1) _ (by omega) (h.swap (by omega) (by omega)) hi)
    obtain ⟨i', rfl⟩ : ∃ i', i = i' + 1 := ⟨i - 1, by omega⟩
    simp only [SB.slices_symMergeCmpFunc_int.l1]
    rw [wpre i' (by omega), if_pos (by omega), wone q (by omega), if_pos (by omega), if_pos (by omega), if_pos (by omega), if_pos (by omega), swap_set]
theorem down_ev (hn : n ≤ 1000) (i : Nat) : ∀ (d q : Nat) (l : List Int), q = i + d → In p n l → q < n → Ev (fun k => SB.slices_symMergeCmpFunc_int.l3 k l i q) (down l q d)
  | 0, q, l, e, h, hi => Ev_one fun k => by
      simp only [SB.slices_symMergeCmpFunc_int.l3]
      rw [if_neg (by omega)]
      rfl
  | d + 1, q, l, e, h, hi => by
    have hl := h.1
    obtain ⟨q', rfl⟩ : ∃ q', q = q' + 1 := ⟨q - 1, by omega⟩
    refine Ev.step (f := fun k => SB.slices_symMergeCmpFunc_int.l3 k (swap1 l (q' + 1) q') i (q' : Int)) (fun k => ?_) (down_ev hn i d q' _ (by omega) (h.swap (by omega) (by omega)) (by omega))
    simp only [SB.slices_symMergeCmpFunc_int.l3]
    rw [if_pos (by omega), wpre q' (by omega), if_pos (by omega), if_pos (by omega), if_pos (by omega), if_pos (by omega), swap_set]
theorem srch0 (hc : CmpOk c cb p) (hn : n ≤ 1000) (l R : List Int) (a : Nat) (h : In p n l) (ha : a < n) : ∀ (f s r : Nat), r - s ≤ f → s ≤ r → r ≤ n →
    Ev (fun k => SB.slices_symMergeCmpFunc_int.l1 k l ((bs (fun q => cb (l.getD q default) (l.getD a default)) f s r : Nat) : Int) a) R → Ev (fun k => SB.slices_symMergeCmpFunc_int.l0 k l a c s r) R
  | 0, s, r, hf, hs, hr, hR => Ev.step (fun k => by
      simp only [SB.slices_symMergeCmpFunc_int.l0]
      rw [if_neg (by omega)]
      rfl) hR
  | f + 1, s, r, hf, hs, hr, hR => by
    have hl := h.1
    rw [bs] at hR
    by_cases g : s < r
    · rw [if_pos g] at hR
      by_cases e : cb (l.getD ((s + r) / 2) default) (l.getD a default) = true
      · rw [if_pos e] at hR
        refine Ev.step (fun k => ?_) (srch0 hc hn l R a h ha f ((s + r) / 2 + 1) r (by omega) (by omega) hr hR)
        simp only [SB.slices_symMergeCmpFunc_int.l0]
        rw [if_pos (by omega), half s r (by omega), if_pos (by omega), if_pos (by omega), if_pos (by omega), if_pos (by omega), rdd, rdd, hc.yes (h.get (by omega)) (h.get ha) e, wone _ (by omega)]
      · rw [if_neg e] at hR
        refine Ev.step (fun k => ?_) (srch0 hc hn l R a h ha f s ((s + r) / 2) (by omega) (by omega) (by omega) hR)
        simp only [SB.slices_symMergeCmpFunc_int.l0]
        rw [if_pos (by omega), half s r (by omega), if_pos (by omega), if_pos (by omega), if_pos (by omega), if_pos (by omega), rdd, rdd, hc.no (h.get (by omega)) (h.get ha) e]
    · rw [if_neg g] at hR
      refine Ev.step (fun k => ?_) hR
      simp only [SB.slices_symMergeCmpFunc_int.l0]
      rw [if_neg (by omega)]
theorem srch2 (hc : CmpOk c cb p) (hn : n ≤ 1000) (l R : List Int) (m : Nat) (h : In p n l) (hm : m < n) : ∀ (f s r : Nat), r - s ≤ f → s ≤ r → r ≤ n →
    Ev (fun k => SB.slices_symMergeCmpFunc_int.l3 k l ((bs (fun q => !cb (l.getD m default) (l.getD q default)) f s r : Nat) : Int) m) R → Ev (fun k => SB.slices_symMergeCmpFunc_int.l2 k l m c s r) R
  | 0, s, r, hf, hs, hr, hR => Ev.step (fun k => by
      simp only [SB.slices_symMergeCmpFunc_int.l2]
      rw [if_neg (by omega)]
      rfl) hR
  | f + 1, s, r, hf, hs, hr, hR => by
    have hl := h.1
    rw [bs] at hR
    by_cases g : s < r
    · rw [if_pos g] at hR
      by_cases e : cb (l.getD m default) (l.getD ((s + r) / 2) default) = true
      · rw [if_neg (by rw [e]; decide)] at hR
        refine Ev.step (fun k => ?_) (srch2 hc hn l R m h hm f s ((s + r) / 2) (by omega) (by omega) (by omega) hR)
        simp only [SB.slices_symMergeCmpFunc_int.l2]
        rw [if_pos (by omega), half s r (by omega), if_pos (by omega), if_pos (by omega), if_pos (by omega), if_pos (by omega), rdd, rdd, hc.yes (h.get hm) (h.get (by omega)) e]
      · rw [if_pos (by rw [Bool.eq_false_iff.2 e]; decide)] at hR
        refine Ev.step (fun k => ?_) (srch2 hc hn l R m h hm f ((s + r) / 2 + 1) r (by omega) (by omega) hr hR)
        simp only [SB.slices_symMergeCmpFunc_int.l2]
        rw [if_pos (by omega), half s r (by omega), if_pos (by omega), if_pos (by omega), if_pos (by omega), if_pos (by omega), rdd, rdd, hc.no (h.get hm) (h.get (by omega)) e, wone _ (by omega)]
    · rw [if_neg g] at hR
      refine Ev.step (fun k => ?_) hR
      simp only [SB.slices_symMergeCmpFunc_int.l2]
      rw [if_neg (by omega)]
theorem srch4 (hc : CmpOk c cb p) (hn : n ≤ 1000) (l R : List Int) (a m b mid N P : Nat) (h : In p n l) (hP : P ≤ 2000) : ∀ (f s r : Nat), r - s ≤ f → s ≤ r → r ≤ n → (∀ q, s ≤ q → q < r → q ≤ P ∧ P - q < n) →
    (∀ t, t = bs (fun q => !cb (l.getD (P - q) default) (l.getD q default)) f s r → Ev (fun k => if (t : Int) < (m : Int) then (SB.slices_symMergeCmpFunc_int.j6 k l a m b c mid t (wrap64 ((N : Int) - (t : Int))) (decide ((m : Int) < (wrap64 ((N : Int) - (t : Int)))))) else (SB.slices_symMergeCmpFunc_int.j6 k l a m b c mid t (wrap64 ((N : Int) - (t : Int))) false)) R) → Ev (fun k => SB.slices_symMergeCmpFunc_int.l4 k l a m b c mid N s r P) R
  | 0, s, r, hf, hs, hr, hq, hR => Ev.step (fun k => by
      simp only [SB.slices_symMergeCmpFunc_int.l4]
      rw [if_neg (by omega)]) (hR s rfl)
  | f + 1, s, r, hf, hs, hr, hq, hR => by
    have hl := h.1
    rw [bs] at hR
    by_cases g : s < r
    · rw [if_pos g] at hR
      have hh := hq ((s + r) / 2) (by omega) (by omega)
      by_cases e : cb (l.getD (P - (s + r) / 2) default) (l.getD ((s + r) / 2) default) = true
      · rw [if_neg (by rw [e]; decide)] at hR
        refine Ev.step (fun k => ?_) (srch4 hc hn l R a m b mid N P h hP f s ((s + r) / 2) (by omega) (by omega) (by omega) (fun q h1 h2 => hq q h1 (by omega)) hR)
        simp only [SB.slices_symMergeCmpFunc_int.l4]
        rw [if_pos (by omega), half s r (by omega), wsub P _ hh.1 (by omega), if_pos (by omega), if_pos (by omega), if_pos (by omega), if_pos (by omega), rdd, rdd, hc.yes (h.get hh.2) (h.get (by omega)) e]
      · rw [if_pos (by rw [Bool.eq_false_iff.2 e]; decide)] at hR
        refine Ev.step (fun k => ?_) (srch4 hc hn l R a m b mid N P h hP f ((s + r) / 2 + 1) r (by omega) (by omega) hr (fun q h1 h2 => hq q (by omega) h2) hR)
        simp only [SB.slices_symMergeCmpFunc_int.l4]
        rw [if_pos (by omega), half s r (by omega), wsub P _ hh.1 (by omega), if_pos (by omega), if_pos (by omega), if_pos (by omega), if_pos (by omega), rdd, rdd, hc.no (h.get hh.2) (h.get (by omega)) e, wone _ (by omega)]
    · rw [if_neg g] at hR
      refine Ev.step (fun k => ?_) (hR s rfl)
      simp only [SB.slices_symMergeCmpFunc_int.l4]
      rw [if_neg (by omega)]
end
end Go.Proofs.Ytomanpmffjkkgaa.S5
namespace Go.Proofs.Ytomanpmffjkkgaa.S6
open Go Go.RowKit Go.Proofs.Ytomanpmffjkkgaa Go.Proofs.YtomanpmffjkkgaaW.PrintWords Go.Proofs.Ytomanpmffjkkgaa.EV Go.Proofs.Ytomanpmffjkkgaa.S2 Go.Proofs.Ytomanpmffjkkgaa.S3 Go.Proofs.Ytomanpmffjkkgaa.S4 Go.Proofs.Ytomanpmffjkkgaa.S5
section
variable {c : X1.Cmp} {cb : Int → Int → Bool} {p : Int → Prop} {n : Nat}
def last2 (cb : Int → Int → Bool) (K : Nat) (l : List Int) (a s mid e b : Nat) : List Int :=
  let l2 := if a < s ∧ s < mid then symM cb K l a s mid else l
  if mid < e ∧ e < b then symM cb K l2 mid e b else l2
theorem j8_ev (K : Nat) (ih : ∀ (l : List Int) (a m b : Nat), In p n l → b - a ≤ K → a < m → m < b → b ≤ n → In p n (symM cb K l a m b) ∧ Ev (fun k => SB.slices_symMergeCmpFunc_int.f k l a m b c) (symM cb K l a m b))
    (l : List Int) (h : In p n l) (a s mid e b : Nat) (h1 : mid - a ≤ K) (h2 : b - mid ≤ K) (h3 : b ≤ n) (h4 : mid ≤ n) :
    In p n (last2 cb K l a s mid e b) ∧ Ev (fun k => SB.slices_symMergeCmpFunc_int.j7 k l a b c mid s e) (last2 cb K l a s mid e b) := by
  have tail : ∀ l2 : List Int, In p n l2 → In p n (if mid < e ∧ e < b then symM cb K l2 mid e b else l2) ∧
      Ev (fun k => if (mid : Int) < (e : Int) then (if (e : Int) < (b : Int) then ((SB.slices_symMergeCmpFunc_int.f k l2 mid e b c).bind fun t => some t) else some l2) else some l2) (if mid < e ∧ e < b then symM cb K l2 mid e b else l2) := by
    intro l2 hl2
    by_cases g : mid < e
    · by_cases g2 : e < b
      · rw [if_pos ⟨g, g2⟩]
        have := ih l2 mid e b hl2 h2 g g2 h3
        exact ⟨this.1, Ev.congr (fun k => by rw [if_pos (by omega), if_pos (by omega)]) (Ev_bind this.2 (Ev.now _))⟩
      · rw [if_neg (fun x => g2 x.2)]
        exact ⟨hl2, Ev_all_k fun k => by rw [if_pos (by omega), if_neg (by omega)]⟩
    · rw [if_neg (fun x => g x.1)]
      exact ⟨hl2, Ev_all_k fun k => by rw [if_neg (by omega)]⟩
  unfold last2
  dsimp only
  by_cases g : a < s ∧ s < mid
  · rw [if_pos g]
    have h5 := ih l a s mid h h1 g.1 g.2 h4
    have t := tail _ h5.1
    refine ⟨t.1, ?_⟩
    refine Ev.step (f := fun k => SB.slices_symMergeCmpFunc_int.j8 k l a b c mid s e true) (fun k => ?_) (Ev.step (f := fun k => (SB.slices_symMergeCmpFunc_int.f k l a s mid c).bind fun t234 => (if (mid : Int) < (e : Int) then (if (e : Int) < (b : Int) then ((SB.slices_symMergeCmpFunc_int.f k t234 mid e b c).bind fun t => some t) else some t234) else some t234)) (fun k => ?_) (Ev_bind h5.2 t.2))
    · simp only [SB.slices_symMergeCmpFunc_int.j7]
      rw [if_pos (by omega), decide_eq_true (by omega : (s : Int) < (mid : Int))]
    · simp only [SB.slices_symMergeCmpFunc_int.j8]
      rw [if_pos trivial]
  · rw [if_neg g]
    have t := tail _ h
    refine ⟨t.1, ?_⟩
    refine Ev.step (f := fun k => SB.slices_symMergeCmpFunc_int.j8 k l a b c mid s e false) (fun k => ?_) (Ev.step (f := fun k => (if (mid : Int) < (e : Int) then (if (e : Int) < (b : Int) then ((SB.slices_symMergeCmpFunc_int.f k l mid e b c).bind fun t => some t) else some l) else some l)) (fun k => ?_) t.2)
    · simp only [SB.slices_symMergeCmpFunc_int.j7]
      by_cases q : a < s
      · rw [if_pos (by omega), decide_eq_false (by omega : ¬ (s : Int) < (mid : Int))]
      · rw [if_neg (by omega)]
    · simp only [SB.slices_symMergeCmpFunc_int.j8]
      rw [if_neg (by decide)]
theorem symM_ev (hc : CmpOk c cb p) (hn : n ≤ 1000) : ∀ (K : Nat) (l : List Int) (a m b : Nat), In p n l → b - a ≤ K → a < m → m < b → b ≤ n → In p n (symM cb K l a m b) ∧ Ev (fun k => SB.slices_symMergeCmpFunc_int.f k l a m b c) (symM cb K l a m b)
  | 0, l, a, m, b, h, hk, h1, h2, h3 => by omega
  | K + 1, l, a, m, b, h, hk, h1, h2, h3 => by
    have hl := h.1
    rw [symM]
    by_cases e1 : m - a = 1
    · rw [if_pos e1]
      have hr := bs_range (fun q => cb (l.getD q default) (l.getD a default)) (b - m) m b (by omega)
      refine ⟨h.up _ _ (by omega), ?_⟩
      refine Ev.step (f := fun k => SB.slices_symMergeCmpFunc_int.l0 k l a c m b) (fun k => ?_) (srch0 hc hn l _ a h (by omega) (b - m) m b (by omega) (by omega) h3 (up_ev hn _ _ a l (by omega) h (by omega)))
      simp only [SB.slices_symMergeCmpFunc_int.f]
      rw [if_pos (by rw [wsub m a (by omega) (by omega)]; omega)]
    · rw [if_neg e1]
      by_cases e2 : b - m = 1
      · rw [if_pos e2]
        have hr := bs_range (fun q => !cb (l.getD m default) (l.getD q default)) (m - a) a m (by omega)
        refine ⟨h.down _ _ (by omega) (by omega), ?_⟩
        refine Ev.step (f := fun k => SB.slices_symMergeCmpFunc_int.l2 k l m c a m) (fun k => ?_) (srch2 hc hn l _ m h (by omega) (m - a) a m (by omega) (by omega) (by omega) (down_ev hn _ _ m l (by omega) h (by omega)))
        simp only [SB.slices_symMergeCmpFunc_int.f]
        rw [if_neg (by rw [wsub m a (by omega) (by omega)]; omega), if_pos (by rw [wsub b m (by omega) (by omega)]; omega)]
      · rw [if_neg e2]
        dsimp only
        obtain ⟨mid, hmid⟩ : ∃ mid, mid = (a + b) / 2 := ⟨_, rfl⟩
        rw [← hmid]
        obtain ⟨s0, hs0⟩ : ∃ s0, s0 = (if m > mid then mid + m - b else a) := ⟨_, rfl⟩
        obtain ⟨r0, hr0⟩ : ∃ r0, r0 = (if m > mid then mid else m) := ⟨_, rfl⟩
        rw [← hs0, ← hr0]
        have b0 : s0 ≤ r0 ∧ r0 ≤ m ∧ r0 ≤ mid ∧ a ≤ s0 ∧ mid + m - s0 ≤ b ∧ r0 - s0 ≤ b - a ∧ (∀ q, s0 ≤ q → q < r0 → q ≤ mid + m - 1 ∧ mid + m - 1 - q < n) := by
          by_cases g : m > mid
          · rw [if_pos g] at hs0 hr0
            exact ⟨by omega, by omega, by omega, by omega, by omega, by omega, fun q q1 q2 => by omega⟩
          · rw [if_neg g] at hs0 hr0
            exact ⟨by omega, by omega, by omega, by omega, by omega, by omega, fun q q1 q2 => by omega⟩
        obtain ⟨b1, b2, b3, b4, b5, b6, b7⟩ := b0
        have hr := bs_range (fun q => !cb (l.getD (mid + m - 1 - q) default) (l.getD q default)) (b - a) s0 r0 b1
        obtain ⟨s, hs⟩ : ∃ s, s = bs (fun q => !cb (l.getD (mid + m - 1 - q) default) (l.getD q default)) (b - a) s0 r0 := ⟨_, rfl⟩
        rw [← hs] at hr ⊢
        have ih := fun (l : List Int) (a m b : Nat) => symM_ev hc hn K l a m b
        -- the rotation
        have rotp : In p n (if s < m ∧ m < mid + m - s then rot l m (b - a) (m - s) (mid - s) else l) ∧ ∀ R, Ev (fun k => SB.slices_symMergeCmpFunc_int.j7 k (if s < m ∧ m < mid + m - s then rot l m (b - a) (m - s) (mid - s) else l) a b c mid s ((mid + m - s : Nat) : Int)) R →
            Ev (fun k => if (s : Int) < (m : Int) then (SB.slices_symMergeCmpFunc_int.j6 k l a m b c mid s (wrap64 (((mid + m : Nat) : Int) - (s : Int))) (decide ((m : Int) < (wrap64 (((mid + m : Nat) : Int) - (s : Int)))))) else (SB.slices_symMergeCmpFunc_int.j6 k l a m b c mid s (wrap64 (((mid + m : Nat) : Int) - (s : Int))) false)) R := by
          rw [wsub (mid + m) s (by omega) (by omega)]
          by_cases g : s < m ∧ m < mid + m - s
          · rw [if_pos g]
            have hrot := rot_ev hn 0 (b - a) l m (m - s) (mid - s) h (by omega) (by omega) (by omega) (by omega) (by omega)
            refine ⟨hrot.1, fun R hR => ?_⟩
            refine Ev.congr (f := fun k => SB.slices_symMergeCmpFunc_int.j6 k l a m b c mid s ((mid + m - s : Nat) : Int) true) (fun k => ?_) (Ev.step (f := fun k => (SB.slices_rotateCmpFunc_int.f k l s m ((mid + m - s : Nat) : Int) 0).bind fun t233 => SB.slices_symMergeCmpFunc_int.j7 k t233 a b c mid s ((mid + m - s : Nat) : Int)) (fun k => ?_) (Ev_bind ?_ hR))
            · rw [if_pos (by omega), decide_eq_true (by omega : (m : Int) < ((mid + m - s : Nat) : Int))]
            · simp only [SB.slices_symMergeCmpFunc_int.j6]
              rw [if_pos trivial]
            · unfold SB.slices_rotateCmpFunc_int.f
              rw [wsub m s (by omega) (by omega), wsub (mid + m - s) m (by omega) (by omega), show mid + m - s - m = mid - s by omega]
              exact hrot.2
          · rw [if_neg g]
            refine ⟨h, fun R hR => ?_⟩
            refine Ev.congr (f := fun k => SB.slices_symMergeCmpFunc_int.j6 k l a m b c mid s ((mid + m - s : Nat) : Int) false) (fun k => ?_) (Ev.step (fun k => ?_) hR)
            · by_cases q : s < m
              · rw [if_pos (by omega), decide_eq_false (by omega : ¬ (m : Int) < ((mid + m - s : Nat) : Int))]
              · rw [if_neg (by omega)]
            · simp only [SB.slices_symMergeCmpFunc_int.j6]
              rw [if_neg (by decide)]
        have fin := j8_ev (c := c) K ih _ rotp.1 a s mid (mid + m - s) b (by omega) (by omega) h3 (by omega)
        refine ⟨fin.1, ?_⟩
        refine Ev.step (f := fun k => SB.slices_symMergeCmpFunc_int.j4 k l a m b c mid ((mid + m : Nat) : Int) s0 r0) (fun k => ?_) (Ev.step (f := fun k => SB.slices_symMergeCmpFunc_int.l4 k l a m b c mid ((mid + m : Nat) : Int) s0 r0 ((mid + m - 1 : Nat) : Int)) (fun k => ?_) (srch4 hc hn l _ a m b mid (mid + m) (mid + m - 1) h (by omega) (b - a) s0 r0 b6 b1 (by omega) b7 (fun t ht => ?_)))
        · simp only [SB.slices_symMergeCmpFunc_int.f]
          rw [if_neg (by rw [wsub m a (by omega) (by omega)]; omega), if_neg (by rw [wsub b m (by omega) (by omega)]; omega), half a b (by omega), ← hmid, wadd mid m (by omega)]
          by_cases g : m > mid
          · rw [if_pos (by omega), wsub (mid + m) b (by omega) (by omega), hs0, hr0, if_pos g, if_pos g]
          · rw [if_neg (by omega), hs0, hr0, if_neg g, if_neg g]
        · simp only [SB.slices_symMergeCmpFunc_int.j4]
          have : wrap64 (((mid + m : Nat) : Int) - 1) = ((mid + m - 1 : Nat) : Int) := by unfold wrap64; omega
          rw [this]
        · obtain rfl : t = s := by rw [ht, hs]
          exact rotp.2 _ fin.2
theorem stb_ev (hc : CmpOk c cb p) (hn : n ≤ 40) (l : List Int) (h : In p n l) : Ev (fun k => SB.slices_stableCmpFunc_int.f k l (n : Int) c) (stb cb l n) := by
  have hn' : n ≤ 1000 := by omega
  unfold SB.slices_stableCmpFunc_int.f stb
  have e20 : wrap64 (20 + 20) = ((40 : Nat) : Int) := by unfold wrap64; omega
  have e40 : wrap64 (((40 : Nat) : Int) + 20) = ((60 : Nat) : Int) := by unfold wrap64; omega
  have e2 : wrap64 (2 * 20) = ((40 : Nat) : Int) := by unfold wrap64; omega
  have e3 : wrap64 (20 * 2) = ((40 : Nat) : Int) := by unfold wrap64; omega
  have e80 : wrap64 (((40 : Nat) : Int) + ((40 : Nat) : Int)) = ((80 : Nat) : Int) := by unfold wrap64; omega
  have e5 : wrap64 ((0 : Int) + 20) = ((20 : Nat) : Int) := by unfold wrap64; omega
  -- behind the blocks
  have done40 : ∀ l : List Int, Ev (fun k => SB.slices_stableCmpFunc_int.l1 k l (n : Int) c ((40 : Nat) : Int)) l := fun l => Ev_one fun k => by
    simp only [SB.slices_stableCmpFunc_int.l1]
    rw [if_neg (by omega)]
  by_cases h20 : n < 20
  · rw [if_pos h20]
    refine Ev.step (f := fun k => (SB.slices_insertionSortCmpFunc_int.f k l 0 n c).bind fun t => SB.slices_stableCmpFunc_int.l1 k t n c 20) (fun k => ?_) (Ev_bind (ins_ev hc hn' l h 0 n (by omega) (by omega)) (Ev_one fun k => ?_))
    · simp only [SB.slices_stableCmpFunc_int.l0]
      rw [if_neg (by omega)]
    · simp only [SB.slices_stableCmpFunc_int.l1]
      rw [if_neg (by omega)]
  · rw [if_neg h20]
    dsimp only
    have s1 := ins_ev hc hn' l h 0 20 (by omega) (by omega)
    have i1 := h.insSort (cb := cb) 0 20 (by omega) (by omega)
    refine Ev.step (f := fun k => (SB.slices_insertionSortCmpFunc_int.f k l 0 ((20 : Nat) : Int) c).bind fun t => SB.slices_stableCmpFunc_int.l0 k t n c 20 20 ((40 : Nat) : Int)) (fun k => ?_) (Ev_bind s1 ?_)
    · simp only [SB.slices_stableCmpFunc_int.l0]
      rw [if_pos (by omega), e20]
      rfl
    · by_cases h40 : n < 40
      · rw [if_pos h40]
        have s2 := ins_ev hc hn' _ i1 20 n (by omega) (by omega)
        refine Ev.step (f := fun k => (SB.slices_insertionSortCmpFunc_int.f k (insSort cb l 0 20) ((20 : Nat) : Int) n c).bind fun t => SB.slices_stableCmpFunc_int.l1 k t n c 20) (fun k => ?_) (Ev_bind s2 ?_)
        · simp only [SB.slices_stableCmpFunc_int.l0]
          rw [if_neg (by omega)]
          rfl
        · by_cases g : 20 < n
          · rw [if_pos g]
            have i2 := i1.insSort (cb := cb) 20 n (by omega) (by omega)
            have s3 := (symM_ev hc hn' n _ 0 20 n i2 (by omega) (by omega) (by omega) (by omega)).2
            refine Ev.step (f := fun k => SB.slices_stableCmpFunc_int.l2 k (insSort cb (insSort cb l 0 20) 20 n) n c 20 0 ((40 : Nat) : Int)) (fun k => ?_) (Ev.step (f := fun k => (SB.slices_symMergeCmpFunc_int.f k (insSort cb (insSort cb l 0 20) 20 n) ((0 : Nat) : Int) ((20 : Nat) : Int) n c).bind fun t => SB.slices_stableCmpFunc_int.l1 k t n c ((40 : Nat) : Int)) (fun k => ?_) (Ev_bind s3 (done40 _)))
            · simp only [SB.slices_stableCmpFunc_int.l1]
              rw [if_pos (by omega), e2]
            · simp only [SB.slices_stableCmpFunc_int.l2]
              rw [if_neg (by omega), e5, if_pos (by omega), e3]
              rfl
          · rw [if_neg g]
            exact Ev_one fun k => by
              simp only [SB.slices_stableCmpFunc_int.l1]
              rw [if_neg (by omega)]
      · rw [if_neg h40]
        obtain rfl : n = 40 := by omega
        have s2 := ins_ev hc hn' _ i1 20 40 (by omega) (by omega)
        have i2 := i1.insSort (cb := cb) 20 40 (by omega) (by omega)
        have s3 := ins_ev hc hn' _ i2 40 40 (by omega) (by omega)
        have i3 : In p 40 (insSort cb (insSort cb (insSort cb l 0 20) 20 40) 40 40) := i2
        have s4 := (symM_ev hc hn' 40 _ 0 20 40 i3 (by omega) (by omega) (by omega) (by omega)).2
        refine Ev.step (f := fun k => (SB.slices_insertionSortCmpFunc_int.f k (insSort cb l 0 20) ((20 : Nat) : Int) ((40 : Nat) : Int) c).bind fun t => SB.slices_stableCmpFunc_int.l0 k t ((40 : Nat) : Int) c 20 ((40 : Nat) : Int) ((60 : Nat) : Int)) (fun k => ?_) (Ev_bind s2 ?_)
        · simp only [SB.slices_stableCmpFunc_int.l0]
          rw [if_pos (by omega), e40]
          rfl
        · refine Ev.step (f := fun k => (SB.slices_insertionSortCmpFunc_int.f k (insSort cb (insSort cb l 0 20) 20 40) ((40 : Nat) : Int) ((40 : Nat) : Int) c).bind fun t => SB.slices_stableCmpFunc_int.l1 k t ((40 : Nat) : Int) c 20) (fun k => ?_) (Ev_bind s3 ?_)
          · simp only [SB.slices_stableCmpFunc_int.l0]
            rw [if_neg (by omega)]
          · refine Ev.step (f := fun k => SB.slices_stableCmpFunc_int.l2 k (insSort cb (insSort cb (insSort cb l 0 20) 20 40) 40 40) ((40 : Nat) : Int) c 20 0 ((40 : Nat) : Int)) (fun k => ?_) (Ev.step (f := fun k => (SB.slices_symMergeCmpFunc_int.f k (insSort cb (insSort cb (insSort cb l 0 20) 20 40) 40 40) ((0 : Nat) : Int) ((20 : Nat) : Int) ((40 : Nat) : Int) c).bind fun t => SB.slices_stableCmpFunc_int.l2 k t ((40 : Nat) : Int) c 20 ((40 : Nat) : Int) ((80 : Nat) : Int)) (fun k => ?_) (Ev_bind s4 (Ev.step (fun k => ?_) (done40 _))))
            · simp only [SB.slices_stableCmpFunc_int.l1]
              rw [if_pos (by omega), e2]
            · simp only [SB.slices_stableCmpFunc_int.l2]
              rw [if_pos (by omega), e5, e2, e80]
              rfl
            · simp only [SB.slices_stableCmpFunc_int.l2]
              rw [if_neg (by omega), e40, if_neg (by omega), e3]
end
end Go.Proofs.Ytomanpmffjkkgaa.S6
namespace Go.Proofs.Ytomanpmffjkkgaa.S7
open Go Go.RowKit Go.Proofs.YtomanpmffjkkgaaW.PrintWords Go.Proofs.Ytomanpmffjkkgaa.EV Go.Proofs.Ytomanpmffjkkgaa.S4
def idx (n : Nat) : List Int := (List.range n).map fun i : Nat => (i : Int)
theorem idx_succ (n : Nat) : idx (n + 1) = idx n ++ [(n : Int)] := by unfold idx; rw [List.range_succ, List.map_append]; rfl
theorem idx_length (n : Nat) : (idx n).length = n := by unfold idx; rw [List.length_map, List.length_range]
theorem mem_idx {n : Nat} {x : Int} : x ∈ idx n ↔ 0 ≤ x ∧ x < n := by
  unfold idx
  rw [List.mem_map]
  constructor
  · rintro ⟨a, ha, rfl⟩
    rw [List.mem_range] at ha
    omega
  · intro h
    exact ⟨x.toNat, by rw [List.mem_range]; omega, by omega⟩
theorem idx_asc (n : Nat) : (idx n).Pairwise (fun x y => x < y) := by
  unfold idx
  rw [List.pairwise_map]
  exact List.Pairwise.imp (fun h => by omega) List.pairwise_lt_range
section
variable (f : Int → Int)
def lt (a b : Int) : Prop := f b < f a ∨ (f a = f b ∧ a < b)
instance : DecidableRel (lt f) := fun a b => by unfold lt; exact inferInstance
def cb (a b : Int) : Bool := decide (f b < f a)
theorem lt_trans {x y z : Int} (h : lt f x y) (h' : lt f y z) : lt f x z := by unfold lt at *; omega
theorem lt_total {x y : Int} (h : x < y) : lt f y x ∨ lt f x y := by unfold lt; omega
theorem lt_not {x y : Int} (h : lt f x y) (h' : lt f y x) : False := by unfold lt at *; omega
def ord (n : Nat) : List Int := stb (cb f) (idx n) n
theorem ord_ok {n : Nat} (hn : n ≤ 40) : (ord f n).Perm (idx n) ∧ (ord f n).Pairwise (lt f) := by
  have h := stb_ok (lt f) (cb f) (fun a b => lt_trans f a b) (idx n) (by rw [idx_length]; exact hn)
    ((idx_asc n).imp fun h => lt_total f h)
    ((idx_asc n).imp fun {a b} h => by
      unfold cb lt
      rw [decide_eq_true_iff]
      omega)
  rw [idx_length] at h
  exact h
theorem ord_unique {n : Nat} (hn : n ≤ 40) {l : List Int} (hp : l.Perm (idx n)) (hl : l.Pairwise (lt f)) : l = ord f n := by
  have h := ord_ok f hn
  have key : ∀ (a b : List Int), a.Perm b → a.Pairwise (lt f) → b.Pairwise (lt f) → a = b := by
    intro a
    induction a with
    | nil => intro b hp _ _; exact (List.nil_perm.1 hp).symm
    | cons x a ih =>
      intro b hp ha hb
      cases b with
      | nil => exact absurd hp.length_eq (by simp)
      | cons y b =>
        have ha' := List.pairwise_cons.1 ha
        have hb' := List.pairwise_cons.1 hb
        have e : x = y := by
          apply Classical.byContradiction
          intro hne
          have hx : x ∈ b := by
            rcases List.mem_cons.1 (hp.mem_iff.1 (List.mem_cons_self ..)) with h | h
            · exact absurd h hne
            · exact h
          have hy : y ∈ a := by
            rcases List.mem_cons.1 (hp.mem_iff.2 (List.mem_cons_self ..)) with h | h
            · exact absurd h.symm hne
            · exact h
          exact lt_not f (ha'.1 y hy) (hb'.1 x hx)
        subst e
        rw [ih b ((List.perm_cons x).1 hp) ha'.2 hb'.2]
  exact key l (ord f n) (hp.trans h.1.symm) hl h.2
def pos (r : Int) (out : List Int) : Nat → Nat
  | 0 => 0
  | k + 1 => if f (out.getD k 0) < r then pos r out k else k + 1
theorem pos_ok (r : Int) (out : List Int) : ∀ k, pos f r out k ≤ k ∧ (∀ j, pos f r out k ≤ j → j < k → f (out.getD j 0) < r) ∧ (0 < pos f r out k → ¬ f (out.getD (pos f r out k - 1) 0) < r)
  | 0 => ⟨Nat.le_refl _, fun j h1 h2 => by omega, fun h => by simp [pos] at h⟩
  | k + 1 => by
    unfold pos
    by_cases h : f (out.getD k 0) < r
    · rw [if_pos h]
      obtain ⟨h1, h2, h3⟩ := pos_ok r out k
      refine ⟨by omega, fun j g1 g2 => ?_, h3⟩
      by_cases e : j = k
      · rw [e]; exact h
      · exact h2 j g1 (by omega)
    · rw [if_neg h]
      exact ⟨Nat.le_refl _, fun j g1 g2 => by omega, fun _ => h⟩
def ins (i : Int) (out : List Int) : List Int := out.take (pos f (f i) out out.length) ++ [i] ++ out.drop (pos f (f i) out out.length)
theorem ins_perm (i : Int) (out : List Int) : (ins f i out).Perm (out ++ [i]) := by
  unfold ins
  rw [List.append_assoc, List.singleton_append]
  refine List.perm_middle.trans ?_
  rw [List.take_append_drop]
  exact (List.perm_append_singleton i out).symm
theorem ins_pw (i : Int) (out : List Int) (h : out.Pairwise (lt f)) (hi : ∀ x ∈ out, x < i) : (ins f i out).Pairwise (lt f) := by
  obtain ⟨p1, p2, p3⟩ := pos_ok f (f i) out out.length
  unfold ins
  generalize pos f (f i) out out.length = q at *
  have hs := List.pairwise_append.1 (show (out.take q ++ out.drop q).Pairwise (lt f) by rw [List.take_append_drop]; exact h)
  have hB : ∀ y ∈ out.drop q, lt f i y := by
    intro y hy
    obtain ⟨j, hj, rfl⟩ := List.getElem_of_mem hy
    rw [List.length_drop] at hj
    have := p2 (q + j) (by omega) (by omega)
    rw [List.getD_eq_getElem?_getD, List.getElem?_eq_getElem (by omega : q + j < out.length)] at this
    left
    rw [List.getElem_drop]
    exact this
  have hA : ∀ x ∈ out.take q, lt f x i := by
    intro x hx
    obtain ⟨j, hj, rfl⟩ := List.getElem_of_mem hx
    rw [List.length_take] at hj
    have hq : 0 < q := by omega
    have hz := p3 hq
    rw [List.getD_eq_getElem?_getD, List.getElem?_eq_getElem (by omega : q - 1 < out.length)] at hz
    have hz' : ¬ f out[q - 1] < f i := hz
    have hm := hi out[j] (List.getElem_mem _)
    rw [List.getElem_take]
    have hr : f out[q - 1] ≤ f out[j] := by
      by_cases e : j = q - 1
      · subst e; exact Int.le_refl _
      · have := (List.pairwise_iff_getElem.1 h) j (q - 1) (by omega) (by omega) (by omega)
        unfold lt at this
        omega
    unfold lt
    omega
  rw [List.append_assoc, List.singleton_append]
  refine List.pairwise_append.2 ⟨hs.1, List.pairwise_cons.2 ⟨hB, hs.2.1⟩, fun x hx y hy => ?_⟩
  rcases List.mem_cons.1 hy with rfl | hy
  · exact hA x hx
  · exact hs.2.2 x hx y hy
def specO : Nat → List Int
  | 0 => []
  | i + 1 => ins f i (specO i)
theorem specO_ok : ∀ i, (specO f i).Perm (idx i) ∧ (specO f i).Pairwise (lt f)
  | 0 => ⟨List.Perm.refl _, List.Pairwise.nil⟩
  | i + 1 => by
    obtain ⟨h1, h2⟩ := specO_ok i
    refine ⟨?_, ins_pw f i _ h2 fun x hx => (mem_idx.1 (h1.mem_iff.1 hx)).2⟩
    rw [idx_succ]
    exact (ins_perm f i _).trans (h1.append_right _)
theorem specO_ord {n : Nat} (hn : n ≤ 40) : specO f n = ord f n := ord_unique f hn (specO_ok f n).1 (specO_ok f n).2
theorem ord_length {n : Nat} (hn : n ≤ 40) : (ord f n).length = n := by rw [(ord_ok f hn).1.length_eq, idx_length]
theorem specO_length (n : Nat) : (specO f n).length = n := by rw [(specO_ok f n).1.length_eq, idx_length]
theorem specO_mem {n : Nat} {x : Int} : x ∈ specO f n ↔ 0 ≤ x ∧ x < n := by rw [(specO_ok f n).1.mem_iff, mem_idx]
theorem ord_mem {n : Nat} (hn : n ≤ 40) {x : Int} : x ∈ ord f n ↔ 0 ≤ x ∧ x < n := by rw [(ord_ok f hn).1.mem_iff, mem_idx]
theorem ord_nodup {n : Nat} (hn : n ≤ 40) : (ord f n).Nodup := (ord_ok f hn).2.imp fun h e => by subst e; exact lt_not f h h
end
end Go.Proofs.Ytomanpmffjkkgaa.S7
namespace Go.Proofs.Ytomanpmffjkkgaa.W3
open Go Go.RowKit Go.Proofs.Ytomanpmffjkkgaa Go.Proofs.Ytomanpmffjkkgaa.P Go.Proofs.YtomanpmffjkkgaaW.PrintWords Go.Proofs.YtomanpmffjkkgaaW.PrintLast Go.Proofs.Ytomanpmffjkkgaa.EV Go.Proofs.Ytomanpmffjkkgaa.I1 Go.Proofs.Ytomanpmffjkkgaa.TI Go.Proofs.Ytomanpmffjkkgaa.W1 Go.Proofs.Ytomanpmffjkkgaa.W2 Go.Proofs.Ytomanpmffjkkgaa.S7
noncomputable def rm (t : Int) (l : List Int) (j : Int) : Int := (quota t l j).2.1
noncomputable def overP (t : Int) (l : List Int) (i : Nat) : List Int := (List.range i).map fun j : Nat => rm t l (j : Int)
section
variable (t : Int) (l : List Int)
theorem overP_succ (i : Nat) : overP t l (i + 1) = overP t l i ++ [rm t l (i : Int)] := by unfold overP; rw [List.range_succ, List.map_append]; rfl
theorem overP_length (i : Nat) : (overP t l i).length = i := by unfold overP; rw [List.length_map, List.length_range]
theorem rd_over (i : Nat) (x : Int) (h0 : 0 ≤ x) (h1 : x < i) : rd (overP t l i) x = rm t l x := by
  unfold rd overP
  rw [List.getD_eq_getElem?_getD, List.getElem?_map, List.getElem?_range (by omega)]
  show rm t l ((x.toNat : Nat) : Int) = _
  rw [Int.toNat_of_nonneg h0]
theorem cmp_ok (n : Nat) : S5.CmpOk (impl_ShareOrder.cmp (overP t l n)) (cb (rm t l)) (fun x => 0 ≤ x ∧ x < n) := by
  intro x y hx hy
  unfold impl_ShareOrder.cmp cb
  rw [overP_length, rd_over t l n x hx.1 hx.2, rd_over t l n y hy.1 hy.2, if_pos ⟨hx.1, hx.2, hy.1, hy.2⟩]
  refine ⟨_, rfl, ?_⟩
  rw [decide_eq_true_iff]
  by_cases h : rm t l y < rm t l x
  · rw [if_pos h]
    omega
  · rw [if_neg h]
    by_cases h2 : rm t l x < rm t l y
    · rw [if_pos h2]
      omega
    · rw [if_neg h2]
      omega
theorem order_i (hl : l.length ≤ 40) : ∀ (d i : Nat), l.length - i = d → i ≤ l.length → Ev (fun k => impl_ShareOrder.l0 k t l (idx i) (overP t l i) (l.length : Int) (i : Int)) (ord (rm t l) l.length) := by
  intro d
  induction d with
  | zero =>
    intro i hd hi
    obtain rfl : i = l.length := by omega
    refine Ev.step (f := fun k => SB.slices_stableCmpFunc_int.f k (idx l.length) ((l.length : Nat) : Int) (impl_ShareOrder.cmp (overP t l l.length))) (fun k => ?_) (S6.stb_ev (cmp_ok t l l.length) hl (idx l.length) ⟨idx_length _, fun e he => mem_idx.1 he⟩)
    simp only [impl_ShareOrder.l0]
    rw [if_neg (by omega), idx_length]
  | succ d ih =>
    intro i hd hi
    refine Ev.step (f := fun k => (impl_ShareQuota.f k t l (i : Int)).bind fun bt209 => (if (idx i).length < 17592186044416 then (if (overP t l i).length < 17592186044416 then (impl_ShareOrder.l0 k t l ((idx i) ++ [(i : Int)]) ((overP t l i) ++ [bt209.2.1]) (l.length : Int) (wrap64 ((i : Int) + 1))) else (none)) else (none))) (fun k => ?_) (Ev_bind (quota_i t l i) (Ev.congr (fun k => ?_) (ih (i + 1) (by omega) (by omega))))
    · simp only [impl_ShareOrder.l0]
      rw [if_pos (by omega)]
    · rw [if_pos (by rw [idx_length]; omega), if_pos (by rw [overP_length]; omega), idx_succ, overP_succ, w_succ (by omega : i < l.length) (by omega)]
      rfl
noncomputable def ordR : List Int := if okW l = true ∧ InT t then ord (rm t l) l.length else []
theorem shareOrder_i : Ev (fun k => impl_ShareOrder.f k t l) (ordR t l) := by
  unfold impl_ShareOrder.f ordR
  refine Ev_bind (shareable_i t l) ?_
  by_cases h : okW l = true
  · by_cases ht : InT t
    · rw [if_pos ⟨h, ht⟩]
      have ho := (okW_iff l).1 h
      have hl := ho.1
      refine Ev.congr (fun k => ?_) (order_i t l (by omega) l.length 0 (by omega) (by omega))
      rw [h, decide_eq_true ht, if_pos (by decide)]
      rfl
    · rw [if_neg (fun g => ht g.2)]
      exact Ev_all_k fun k => by rw [h, decide_eq_false ht, if_neg (by decide)]
  · rw [if_neg (fun g => h g.1)]
    exact Ev_all_k fun k => by rw [Bool.eq_false_iff.2 h, Bool.false_and, if_neg (by decide)]
theorem put_ev (R : List Int) (n i : Nat) (hi : i < n) (hn : n ≤ 40) (out left : List Int) (hout : out.length = i) (hleft : left.length = i + 1) (hmem : ∀ x ∈ out, 0 ≤ x ∧ x < i) (hrd : ∀ x : Int, 0 ≤ x → x < i → rd left x = rm t l x) (r : Int) :
    ∀ q : Nat, q ≤ i → Ev (fun k => spec_ShareOrder.l0 k t l (out.take (pos (rm t l) r out q) ++ [(i : Int)] ++ out.drop (pos (rm t l) r out q)) left ((i + 1 : Nat) : Int)) R → Ev (fun k => spec_ShareOrder.l1 k t l out left (i : Int) r (q : Int)) R := by
  have leave : ∀ (q : Nat), q ≤ i → ∀ k, ((some (([] : List Int) : List Int)).bind fun y190 => (if 0 ≤ (q : Int) then (if (q : Int) ≤ (out.length : Int) then ((some (out.take ((q : Int) : Int).toNat : List Int)).bind fun y193 => (if y190.length + y193.length < 17592186044416 then ((some (y190 ++ y193 : List Int)).bind fun y197 => (if y197.length < 17592186044416 then ((some (y197 ++ [(i : Int)] : List Int)).bind fun y200 => ((some (out.drop ((q : Int) : Int).toNat : List Int)).bind fun y203 => (if y200.length + y203.length < 17592186044416 then (spec_ShareOrder.l0 k t l (y200 ++ y203) left (wrap64 ((i : Int) + 1))) else (none)))) else (none))) else (none))) else (none)) else (none))) = spec_ShareOrder.l0 k t l (out.take q ++ [(i : Int)] ++ out.drop q) left ((i + 1 : Nat) : Int) := by
    intro q hq k
    rw [Option.bind_some, if_pos (by omega), if_pos (by omega), Option.bind_some, if_pos (by rw [List.length_nil, List.length_take]; omega), Option.bind_some, if_pos (by rw [List.nil_append, List.length_take]; omega), Option.bind_some, Option.bind_some, if_pos (by rw [List.nil_append, List.length_append, List.length_take, List.length_singleton, List.length_drop]; omega), w_succ hi (by omega), List.nil_append, Int.toNat_natCast]
  intro q
  induction q with
  | zero =>
    intro hq hR
    refine Ev.step (fun k => ?_) hR
    simp only [spec_ShareOrder.l1]
    rw [if_neg (by omega)]
    exact leave 0 (by omega) k
  | succ q ih =>
    intro hq hR
    have hx : out.getD q 0 ∈ out := by
      rw [List.getD_eq_getElem?_getD, List.getElem?_eq_getElem (by omega : q < out.length)]
      exact List.getElem_mem _
    have hb := hmem _ hx
    have ep : wrap64 (((q + 1 : Nat) : Int) - 1) = (q : Int) := by unfold wrap64; omega
    rw [pos] at hR
    by_cases g : rm t l (out.getD q 0) < r
    · rw [if_pos g] at hR
      refine Ev.step (fun k => ?_) (ih (by omega) hR)
      simp only [spec_ShareOrder.l1]
      rw [if_pos (by omega), ep, if_pos (by omega), if_pos (by omega), rdi, if_pos hb.1, if_pos (by omega), hrd _ hb.1 hb.2, if_pos g]
    · rw [if_neg g] at hR
      refine Ev.step (fun k => ?_) hR
      simp only [spec_ShareOrder.l1]
      rw [if_pos (by omega), ep, if_pos (by omega), if_pos (by omega), rdi, if_pos hb.1, if_pos (by omega), hrd _ hb.1 hb.2, if_neg g]
      exact leave (q + 1) (by omega) k
theorem order_s (hl : l.length ≤ 40) : ∀ (d i : Nat), l.length - i = d → i ≤ l.length → Ev (fun k => spec_ShareOrder.l0 k t l (specO (rm t l) i) (overP t l i) (i : Int)) (specO (rm t l) l.length) := by
  intro d
  induction d with
  | zero =>
    intro i hd hi
    obtain rfl : i = l.length := by omega
    exact Ev_one fun k => by
      simp only [spec_ShareOrder.l0]
      rw [if_neg (by omega)]
  | succ d ih =>
    intro i hd hi
    refine Ev.step (f := fun k => (spec_ShareQuota.f k t l (i : Int)).bind fun bt182 => (if (overP t l i).length < 17592186044416 then (spec_ShareOrder.l1 k t l (specO (rm t l) i) ((overP t l i) ++ [bt182.2.1]) (i : Int) bt182.2.1 ((specO (rm t l) i).length : Int)) else (none))) (fun k => ?_) (Ev_bind (quota_s t l i) (Ev.congr (f := fun k => spec_ShareOrder.l1 k t l (specO (rm t l) i) (overP t l (i + 1)) (i : Int) (rm t l (i : Int)) ((i : Nat) : Int)) (fun k => ?_) (put_ev t l _ l.length i (by omega) hl _ _ (specO_length _ i) (overP_length t l (i + 1)) (fun x hx => (specO_mem _).1 hx) (fun x h0 h1 => rd_over t l (i + 1) x h0 (by omega)) _ i (Nat.le_refl _) ?_)))
    · simp only [spec_ShareOrder.l0]
      rw [if_pos (by omega)]
    · rw [if_pos (by rw [overP_length]; omega), specO_length, overP_succ]
      rfl
    · have e : specO (rm t l) (i + 1) = (specO (rm t l) i).take (pos (rm t l) (rm t l i) (specO (rm t l) i) i) ++ [(i : Int)] ++ (specO (rm t l) i).drop (pos (rm t l) (rm t l i) (specO (rm t l) i) i) := by
        show ins (rm t l) i (specO (rm t l) i) = _
        unfold ins
        rw [specO_length]
      rw [← e]
      exact ih (i + 1) (by omega) (by omega)
theorem shareOrder_s : Ev (fun k => spec_ShareOrder.f k t l) (ordR t l) := by
  unfold spec_ShareOrder.f ordR
  refine Ev.congr (f := fun k => (spec_WeightsOk.f k l).bind fun t177 => (if t177 = true then ((spec_l1Some.f t 0).bind fun t178 => (spec_ShareOrder.j0 k t l [] (!t178))) else (spec_ShareOrder.j0 k t l [] true))) (fun k => rfl) (Ev_bind (weightsOk_s l) ?_)
  have no : Ev (fun k => spec_ShareOrder.j0 k t l [] true) [] := Ev_one fun k => by
    simp only [spec_ShareOrder.j0]
    rw [if_pos trivial]
  by_cases h : okW l = true
  · have ho := (okW_iff l).1 h
    have hl := ho.1
    by_cases ht : InT t
    · rw [if_pos ⟨h, ht⟩, ← specO_ord (rm t l) (by omega)]
      refine Ev.congr (f := fun k => spec_ShareOrder.j0 k t l [] false) (fun k => ?_) (Ev.step (fun k => ?_) (order_s t l (by omega) l.length 0 (by omega) (by omega)))
      · rw [if_pos h, some_s1, Option.bind_some, decide_eq_true (show 0 ≤ t ∧ t ≤ 1000000000000000 from ht)]
        rfl
      · simp only [spec_ShareOrder.j0]
        rw [if_neg (by decide)]
        rfl
    · rw [if_neg (fun g => ht g.2)]
      refine Ev.congr (fun k => ?_) no
      rw [if_pos h, some_s1, Option.bind_some, decide_eq_false (show ¬ (0 ≤ t ∧ t ≤ 1000000000000000) from ht)]
      rfl
  · rw [if_neg (fun g => h g.1)]
    exact Ev.congr (fun k => by rw [if_neg h]) no
end
end Go.Proofs.Ytomanpmffjkkgaa.W3
namespace Go.Proofs.Ytomanpmffjkkgaa.W4
open Go Go.RowKit Go.Proofs.Ytomanpmffjkkgaa Go.Proofs.Ytomanpmffjkkgaa.P Go.Proofs.YtomanpmffjkkgaaW.PrintWords Go.Proofs.YtomanpmffjkkgaaW.PrintLast Go.Proofs.Ytomanpmffjkkgaa.EV Go.Proofs.Ytomanpmffjkkgaa.I1 Go.Proofs.Ytomanpmffjkkgaa.A2 Go.Proofs.Ytomanpmffjkkgaa.TI Go.Proofs.Ytomanpmffjkkgaa.W1 Go.Proofs.Ytomanpmffjkkgaa.W2 Go.Proofs.Ytomanpmffjkkgaa.W3 Go.Proofs.Ytomanpmffjkkgaa.S7
noncomputable def qt (t : Int) (l : List Int) (j : Int) : Int := (quota t l j).1
noncomputable def qP (t : Int) (l : List Int) (i : Nat) : List Int := (List.range i).map fun j : Nat => qt t l (j : Int)
def incL (Q : List Int) (xs : List Int) : List Int := xs.foldl (fun Q x => Q.set x.toNat (wrap64 (rd Q x + 1))) Q
theorem incL_snoc (Q xs : List Int) (x : Int) : incL Q (xs ++ [x]) = (incL Q xs).set x.toNat (wrap64 (rd (incL Q xs) x + 1)) := by unfold incL; rw [List.foldl_append]; rfl
theorem incL_length (Q : List Int) : ∀ xs : List Int, (incL Q xs).length = Q.length := by
  intro xs
  induction xs generalizing Q with
  | nil => rfl
  | cons x xs ih =>
    show (incL (Q.set x.toNat (wrap64 (rd Q x + 1))) xs).length = _
    rw [ih, List.length_set]
section
variable (t : Int) (l : List Int)
theorem qP_succ (i : Nat) : qP t l (i + 1) = qP t l i ++ [qt t l (i : Int)] := by unfold qP; rw [List.range_succ, List.map_append]; rfl
theorem qP_length (i : Nat) : (qP t l i).length = i := by unfold qP; rw [List.length_map, List.length_range]
theorem qP_at (i j : Nat) (h : j < i) : (qP t l i).getD j 0 = qt t l (j : Int) := by
  unfold qP
  rw [List.getD_eq_getElem?_getD, List.getElem?_map, List.getElem?_range h]
  rfl
variable {t l}
theorem mul_le_left {t w W : Int} (ht : 0 ≤ t) (h : w ≤ W) (hW : 0 < W) : t * w / W ≤ t := by
  have : t * w ≤ t * W := Int.mul_le_mul_of_nonneg_left h ht
  exact Int.ediv_le_of_le_mul hW this
theorem le_sum : ∀ (l : List Int), (∀ x ∈ l, 0 ≤ x) → ∀ x ∈ l, x ≤ l.sum
  | [], _, x, h => by cases h
  | y :: l, h0, x, h => by
    rw [List.sum_cons]
    have hs : ∀ (l : List Int), (∀ x ∈ l, 0 ≤ x) → 0 ≤ l.sum := by
      intro l
      induction l with
      | nil => intro _; simp
      | cons z l ih =>
        intro h
        rw [List.sum_cons]
        have := h z (List.mem_cons_self ..)
        have := ih fun x hx => h x (List.mem_cons_of_mem _ hx)
        omega
    rcases List.mem_cons.1 h with rfl | h
    · have := hs l fun x hx => h0 x (List.mem_cons_of_mem _ hx)
      omega
    · have := le_sum l (fun x hx => h0 x (List.mem_cons_of_mem _ hx)) x h
      have := h0 y (List.mem_cons_self ..)
      omega
theorem part (ho : OkW l) (ht : InT t) (j : Nat) (hj : j < l.length) : quota t l (j : Int) = (t * l.getD j 0 / l.sum, t * l.getD j 0 % l.sum, true) := by
  rw [quota_yes ⟨ho, ht, by omega, by omega⟩, rdi]
  have hf := ho.few.at j hj
  have hm : l.getD j 0 ∈ l := by
    rw [List.getD_eq_getElem?_getD, List.getElem?_eq_getElem hj]
    exact List.getElem_mem _
  have hs := le_sum l (fun x hx => (ho.1.2.2 x hx).1) _ hm
  have h2 := ho.2
  have := mul_le_left ht.1 hs (by omega)
  have := ht.2
  exact md_yes ⟨ht, hf, h2, by omega⟩
theorem qt_eq (ho : OkW l) (ht : InT t) (j : Nat) (hj : j < l.length) : qt t l (j : Int) = t * l.getD j 0 / l.sum := by unfold qt; rw [part ho ht j hj]
theorem rm_eq (ho : OkW l) (ht : InT t) (j : Nat) (hj : j < l.length) : rm t l (j : Int) = t * l.getD j 0 % l.sum := by unfold rm; rw [part ho ht j hj]
theorem rm_range (ho : OkW l) (ht : InT t) (j : Nat) (hj : j < l.length) : 0 ≤ rm t l (j : Int) ∧ rm t l (j : Int) < l.sum := by
  have h2 := ho.2
  rw [rm_eq ho ht j hj]
  exact ⟨Int.emod_nonneg _ (by omega), Int.emod_lt_of_pos _ (by omega)⟩
theorem qt_range (ho : OkW l) (ht : InT t) (j : Nat) (hj : j < l.length) : 0 ≤ qt t l (j : Int) ∧ qt t l (j : Int) ≤ t := by
  have h2 := ho.2
  have hf := ho.few.at j hj
  have hm : l.getD j 0 ∈ l := by
    rw [List.getD_eq_getElem?_getD, List.getElem?_eq_getElem hj]
    exact List.getElem_mem _
  have hs := le_sum l (fun x hx => (ho.1.2.2 x hx).1) _ hm
  rw [qt_eq ho ht j hj]
  exact ⟨Int.ediv_nonneg (Int.mul_nonneg ht.1 hf.1) (by omega), mul_le_left ht.1 hs (by omega)⟩
theorem take_sum (i : Nat) (hi : i < l.length) : (l.take (i + 1)).sum = (l.take i).sum + l.getD i 0 := by
  rw [List.take_add_one, List.getElem?_eq_getElem hi, List.getD_eq_getElem?_getD, List.getElem?_eq_getElem hi, List.sum_append]
  simp
theorem sums (ho : OkW l) (ht : InT t) : ∀ i : Nat, i ≤ l.length → (qP t l i).sum * l.sum + (overP t l i).sum = t * (l.take i).sum ∧ 0 ≤ (overP t l i).sum ∧ (overP t l i).sum ≤ i * (l.sum - 1) ∧ 0 ≤ (qP t l i).sum ∧ (qP t l i).sum ≤ i * t
  | 0, _ => by
    refine ⟨?_, ?_, ?_, ?_, ?_⟩ <;> simp [qP, overP]
  | i + 1, hi => by
    obtain ⟨h1, h2, h3, h4, h5⟩ := sums ho ht i (by omega)
    have hr := rm_range ho ht i (by omega)
    have hq := qt_range ho ht i (by omega)
    have e : qt t l (i : Int) * l.sum + rm t l (i : Int) = t * l.getD i 0 := by
      rw [qt_eq ho ht i (by omega), rm_eq ho ht i (by omega)]
      exact Int.ediv_mul_add_emod _ _
    rw [qP_succ, overP_succ, take_sum i (by omega), List.sum_append, List.sum_append, Int.mul_add, Int.add_mul]
    have e1 : ([qt t l (i : Int)] : List Int).sum = qt t l (i : Int) := by simp
    have e2 : ([rm t l (i : Int)] : List Int).sum = rm t l (i : Int) := by simp
    have e3 : ((i + 1 : Nat) : Int) * (l.sum - 1) = (i : Int) * (l.sum - 1) + (l.sum - 1) := by rw [Int.natCast_add, Int.add_mul]; simp
    have e4 : ((i + 1 : Nat) : Int) * t = (i : Int) * t + t := by rw [Int.natCast_add, Int.add_mul]; simp
    rw [e1, e2, e3, e4]
    refine ⟨by omega, by omega, by omega, by omega, by omega⟩
theorem more_range (ho : OkW l) (ht : InT t) : (t - (qP t l l.length).sum) * l.sum = (overP t l l.length).sum ∧ 0 ≤ t - (qP t l l.length).sum ∧ t - (qP t l l.length).sum < l.length := by
  obtain ⟨h1, h2, h3, _, _⟩ := sums ho ht l.length (Nat.le_refl _)
  rw [List.take_length] at h1
  have hW := ho.2.1
  have hn := ho.1.1
  have e : (t - (qP t l l.length).sum) * l.sum = (overP t l l.length).sum := by rw [Int.sub_mul]; omega
  refine ⟨e, ?_, ?_⟩
  · apply Classical.byContradiction
    intro h
    have : (t - (qP t l l.length).sum) * l.sum < 0 := Int.mul_neg_of_neg_of_pos (by omega) (by omega)
    omega
  · apply Classical.byContradiction
    intro h
    have h4 : (l.length : Int) * l.sum ≤ (t - (qP t l l.length).sum) * l.sum := Int.mul_le_mul_of_nonneg_right (by omega) (by omega)
    have h5 : (l.length : Int) * (l.sum - 1) = (l.length : Int) * l.sum - l.length := by rw [Int.mul_sub, Int.mul_one]
    omega
theorem qP_few (ho : OkW l) (ht : InT t) : Few (qP t l l.length) := by
  have hn := ho.1.2.1
  refine ⟨by rw [qP_length]; omega, fun x hx => ?_⟩
  unfold qP at hx
  obtain ⟨j, hj, rfl⟩ := List.mem_map.1 hx
  have := qt_range ho ht j (List.mem_range.1 hj)
  have := ht.2
  omega
variable (t l)
noncomputable def moreN : Nat := (t - (qP t l l.length).sum).toNat
noncomputable def sharesR : List Int × Bool := if okW l = true ∧ InT t then (incL (qP t l l.length) ((ord (rm t l) l.length).take (moreN t l)), true) else ([], false)
variable {t l}
theorem inc_i (Q y : List Int) (hy : ∀ x ∈ y, 0 ≤ x ∧ x < Q.length) (hyl : y.length ≤ 40) : ∀ (d i : Nat), y.length - i = d → i ≤ y.length → Ev (fun k => impl_Shares.l1 k (incL Q (y.take i)) y (y.length : Int) (i : Int)) (incL Q y, true) := by
  intro d
  induction d with
  | zero =>
    intro i hd hi
    obtain rfl : i = y.length := by omega
    exact Ev_one fun k => by
      simp only [impl_Shares.l1]
      rw [if_neg (by omega), List.take_length]
  | succ d ih =>
    intro i hd hi
    have hx : y.getD i 0 ∈ y := by
      rw [List.getD_eq_getElem?_getD, List.getElem?_eq_getElem (by omega : i < y.length)]
      exact List.getElem_mem _
    have hb := hy _ hx
    have e : y.take (i + 1) = y.take i ++ [y.getD i 0] := by
      rw [List.take_add_one, List.getElem?_eq_getElem (by omega : i < y.length), List.getD_eq_getElem?_getD, List.getElem?_eq_getElem (by omega : i < y.length)]
      rfl
    refine Ev.step (fun k => ?_) (ih (i + 1) (by omega) (by omega))
    simp only [impl_Shares.l1]
    rw [if_pos (by omega), if_pos (by omega), if_pos (by omega), rdi, if_pos hb.1, if_pos (by rw [incL_length]; exact hb.2), w_succ (by omega : i < y.length) (by omega), e, incL_snoc]
theorem inc_s (Q y : List Int) (left : Nat) (hy : ∀ x ∈ y, 0 ≤ x ∧ x < Q.length) (hyl : y.length ≤ 40) (hl : left ≤ y.length) : ∀ (d i : Nat), left - i = d → i ≤ left → Ev (fun k => spec_Shares.l1 k (incL Q (y.take i)) (left : Int) y (i : Int)) (incL Q (y.take left), true) := by
  intro d
  induction d with
  | zero =>
    intro i hd hi
    obtain rfl : i = left := by omega
    exact Ev_one fun k => by
      simp only [spec_Shares.l1]
      rw [if_neg (by omega)]
  | succ d ih =>
    intro i hd hi
    have hx : y.getD i 0 ∈ y := by
      rw [List.getD_eq_getElem?_getD, List.getElem?_eq_getElem (by omega : i < y.length)]
      exact List.getElem_mem _
    have hb := hy _ hx
    have e : y.take (i + 1) = y.take i ++ [y.getD i 0] := by
      rw [List.take_add_one, List.getElem?_eq_getElem (by omega : i < y.length), List.getD_eq_getElem?_getD, List.getElem?_eq_getElem (by omega : i < y.length)]
      rfl
    refine Ev.step (fun k => ?_) (ih (i + 1) (by omega) (by omega))
    simp only [spec_Shares.l1]
    rw [if_pos (by omega), if_pos (by omega), if_pos (by omega), rdi, if_pos hb.1, if_pos (by rw [incL_length]; exact hb.2), w_succ (by omega : i < y.length) (by omega), e, incL_snoc]
theorem ordR_yes (ho : OkW l) (ht : InT t) : ordR t l = ord (rm t l) l.length := by unfold ordR; rw [if_pos ⟨(okW_iff l).2 ho, ht⟩]
theorem parts_i (ho : OkW l) (ht : InT t) : ∀ (d i : Nat), l.length - i = d → i ≤ l.length → Ev (fun k => impl_Shares.l0 k t l (qP t l i) (l.length : Int) (i : Int)) (incL (qP t l l.length) ((ord (rm t l) l.length).take (moreN t l)), true) := by
  have hn := ho.1.2.1
  have hm := more_range ho ht
  have hmn : ((moreN t l : Nat) : Int) = t - (qP t l l.length).sum := by unfold moreN; omega
  have ol := ord_length (rm t l) (show l.length ≤ 40 by omega)
  have hs := sums ho ht l.length (Nat.le_refl _)
  intro d
  induction d with
  | zero =>
    intro i hd hi
    obtain rfl : i = l.length := by omega
    have h0 := ordR_yes ho ht ▸ shareOrder_i t l
    have hy : ∀ x ∈ (ord (rm t l) l.length).take (moreN t l), 0 ≤ x ∧ x < (qP t l l.length).length := fun x hx => by
      rw [qP_length]
      exact (ord_mem (rm t l) (by omega)).1 (List.mem_of_mem_take hx)
    have fin := inc_i (qP t l l.length) ((ord (rm t l) l.length).take (moreN t l)) hy (by rw [List.length_take]; omega) _ 0 rfl (by omega)
    have ht' := ht
    unfold InT at ht'
    have ew : wrap64 (t - (qP t l l.length).sum) = ((moreN t l : Nat) : Int) := by rw [hmn]; exact w64_in _ (by omega) (by omega)
    refine Ev.step (f := fun k => (impl_sumOf.f k (qP t l l.length)).bind fun t291 => ((impl_ShareOrder.f k t l).bind fun t292 => (if 0 ≤ (wrap64 (t - t291)) then (if (wrap64 (t - t291)) ≤ (t292.length : Int) then ((some (t292.take ((wrap64 (t - t291)) : Int).toNat : List Int)).bind fun y295 => (impl_Shares.l1 k (qP t l l.length) y295 (y295.length : Int) 0)) else (none)) else (none)))) (fun k => ?_) (Ev_bind (all_i (qP_few ho ht)) (Ev_bind h0 (Ev.congr (fun k => ?_) fin)))
    · simp only [impl_Shares.l0]
      rw [if_neg (by omega)]
    · rw [ew, if_pos (by omega), if_pos (by omega), Option.bind_some, Int.toNat_natCast]
      rfl
  | succ d ih =>
    intro i hd hi
    refine Ev.step (f := fun k => (impl_ShareQuota.f k t l (i : Int)).bind fun bt285 => (if (qP t l i).length < 17592186044416 then (impl_Shares.l0 k t l (qP t l i ++ [bt285.1]) (l.length : Int) (wrap64 ((i : Int) + 1))) else (none))) (fun k => ?_) (Ev_bind (quota_i t l i) (Ev.congr (fun k => ?_) (ih (i + 1) (by omega) (by omega))))
    · simp only [impl_Shares.l0]
      rw [if_pos (by omega)]
    · rw [if_pos (by rw [qP_length]; omega), qP_succ, w_succ (by omega : i < l.length) (by omega)]
      rfl
theorem parts_s (ho : OkW l) (ht : InT t) : ∀ (d i : Nat), l.length - i = d → i ≤ l.length → Ev (fun k => spec_Shares.l0 k t l (qP t l i) (t - (qP t l i).sum) (i : Int)) (incL (qP t l l.length) ((ord (rm t l) l.length).take (moreN t l)), true) := by
  have hn := ho.1.2.1
  have hm := more_range ho ht
  have hmn : ((moreN t l : Nat) : Int) = t - (qP t l l.length).sum := by unfold moreN; omega
  have ol := ord_length (rm t l) (show l.length ≤ 40 by omega)
  have ht' := ht
  unfold InT at ht'
  intro d
  induction d with
  | zero =>
    intro i hd hi
    obtain rfl : i = l.length := by omega
    have h0 := ordR_yes ho ht ▸ shareOrder_s t l
    have fin := inc_s (qP t l l.length) (ord (rm t l) l.length) (moreN t l) (fun x hx => by rw [qP_length]; exact (ord_mem (rm t l) (by omega)).1 hx) (by omega) (by omega) _ 0 rfl (by omega)
    refine Ev.step (f := fun k => (spec_ShareOrder.f k t l).bind fun t274 => (spec_Shares.l1 k (qP t l l.length) ((moreN t l : Nat) : Int) t274 0)) (fun k => ?_) (Ev_bind h0 fin)
    simp only [spec_Shares.l0]
    rw [if_neg (by omega), hmn]
  | succ d ih =>
    intro i hd hi
    have hs := sums ho ht i (by omega)
    have hq := qt_range ho ht i (by omega)
    have hb : (i : Int) * t ≤ 40 * 1000000000000000 := by
      have h1 : (i : Int) * t ≤ 40 * t := Int.mul_le_mul_of_nonneg_right (by omega) ht'.1
      omega
    refine Ev.step (f := fun k => (spec_ShareQuota.f k t l (i : Int)).bind fun bt268 => (if (qP t l i).length < 17592186044416 then (spec_Shares.l0 k t l (qP t l i ++ [bt268.1]) (wrap64 ((t - (qP t l i).sum) - bt268.1)) (wrap64 ((i : Int) + 1))) else (none))) (fun k => ?_) (Ev_bind (quota_s t l i) (Ev.congr (fun k => ?_) (ih (i + 1) (by omega) (by omega))))
    · simp only [spec_Shares.l0]
      rw [if_pos (by omega)]
    · have es : (qP t l (i + 1)).sum = (qP t l i).sum + qt t l i := by rw [qP_succ, List.sum_append]; simp
      have e : wrap64 ((t - (qP t l i).sum) - qt t l i) = t - (qP t l (i + 1)).sum := by
        rw [es, w64_in _ (by omega) (by omega)]
        omega
      show (if (qP t l i).length < 17592186044416 then (spec_Shares.l0 k t l (qP t l i ++ [qt t l i]) (wrap64 ((t - (qP t l i).sum) - qt t l i)) (wrap64 ((i : Int) + 1))) else (none)) = _
      rw [if_pos (by rw [qP_length]; omega), e, qP_succ, w_succ (by omega : i < l.length) (by omega)]
variable (t l)
theorem shares_i : Ev (fun k => impl_Shares.f k t l) (sharesR t l) := by
  unfold impl_Shares.f sharesR
  refine Ev_bind (shareable_i t l) ?_
  by_cases h : okW l = true
  · by_cases ht : InT t
    · rw [if_pos ⟨h, ht⟩]
      refine Ev.congr (fun k => ?_) (parts_i ((okW_iff l).1 h) ht l.length 0 (by omega) (by omega))
      rw [h, decide_eq_true ht, if_pos (by decide)]
      rfl
    · rw [if_neg (fun g => ht g.2)]
      exact Ev_all_k fun k => by rw [h, decide_eq_false ht, if_neg (by decide)]
  · rw [if_neg (fun g => h g.1)]
    exact Ev_all_k fun k => by rw [Bool.eq_false_iff.2 h, Bool.false_and, if_neg (by decide)]
theorem shares_s : Ev (fun k => spec_Shares.f k t l) (sharesR t l) := by
  unfold spec_Shares.f sharesR
  refine Ev.congr (f := fun k => (spec_WeightsOk.f k l).bind fun t266 => (if t266 = true then ((spec_l1Some.f t 0).bind fun t267 => (spec_Shares.j0 k t l [] (!t267))) else (spec_Shares.j0 k t l [] true))) (fun k => rfl) (Ev_bind (weightsOk_s l) ?_)
  have no : Ev (fun k => spec_Shares.j0 k t l [] true) ([], false) := Ev_one fun k => by
    simp only [spec_Shares.j0]
    rw [if_pos trivial]
  by_cases h : okW l = true
  · by_cases ht : InT t
    · rw [if_pos ⟨h, ht⟩]
      have h0 := parts_s ((okW_iff l).1 h) ht l.length 0 (by omega) (by omega)
      refine Ev.congr (f := fun k => spec_Shares.j0 k t l [] false) (fun k => ?_) (Ev.step (fun k => ?_) h0)
      · rw [if_pos h, some_s1, Option.bind_some, decide_eq_true (show 0 ≤ t ∧ t ≤ 1000000000000000 from ht)]
        rfl
      · simp only [spec_Shares.j0]
        rw [if_neg (by decide)]
        show spec_Shares.l0 k t l [] t 0 = spec_Shares.l0 k t l [] (t - ([] : List Int).sum) 0
        rw [List.sum_nil, Int.sub_zero]
    · rw [if_neg (fun g => ht g.2)]
      refine Ev.congr (fun k => ?_) no
      rw [if_pos h, some_s1, Option.bind_some, decide_eq_false (show ¬ (0 ≤ t ∧ t ≤ 1000000000000000) from ht)]
      rfl
  · rw [if_neg (fun g => h g.1)]
    exact Ev.congr (fun k => by rw [if_neg h]) no
end
end Go.Proofs.Ytomanpmffjkkgaa.W4
namespace Go.Proofs.Ytomanpmffjkkgaa.W6
open Go Go.RowKit Go.Proofs.Ytomanpmffjkkgaa Go.Proofs.Ytomanpmffjkkgaa.P Go.Proofs.YtomanpmffjkkgaaW.PrintWords Go.Proofs.YtomanpmffjkkgaaW.PrintLast Go.Proofs.Ytomanpmffjkkgaa.EV Go.Proofs.Ytomanpmffjkkgaa.I1 Go.Proofs.Ytomanpmffjkkgaa.A2 Go.Proofs.Ytomanpmffjkkgaa.TI Go.Proofs.Ytomanpmffjkkgaa.W1 Go.Proofs.Ytomanpmffjkkgaa.W2 Go.Proofs.Ytomanpmffjkkgaa.W3 Go.Proofs.Ytomanpmffjkkgaa.W4 Go.Proofs.Ytomanpmffjkkgaa.S7
theorem incL_at : ∀ (xs : List Int) (Q : List Int) (B : Int), (∀ j : Nat, j < Q.length → 0 ≤ Q.getD j 0 ∧ Q.getD j 0 ≤ B) → B + xs.length ≤ 4000000000000000000 → xs.Nodup → (∀ x ∈ xs, 0 ≤ x ∧ x < (Q.length : Int)) → ∀ j : Nat, j < Q.length → (incL Q xs).getD j 0 = Q.getD j 0 + if (j : Int) ∈ xs then 1 else 0
  | [], Q, B, hQ, hB, hn, hx, j, hj => by
    rw [if_neg (List.not_mem_nil)]
    show Q.getD j 0 = _
    omega
  | x :: xs, Q, B, hQ, hB, hn, hx, j, hj => by
    have hx0 := hx x (List.mem_cons_self ..)
    obtain ⟨i, rfl⟩ := Int.eq_ofNat_of_zero_le hx0.1
    have hi : i < Q.length := by omega
    have hq := hQ i hi
    rw [List.length_cons] at hB
    have hn' := List.nodup_cons.1 hn
    show (incL (Q.set (i : Int).toNat (wrap64 (rd Q (i : Int) + 1))) xs).getD j 0 = _
    rw [rdi, Int.toNat_natCast, w64_in _ (by omega) (by omega)]
    have ih := incL_at xs (Q.set i (Q.getD i 0 + 1)) (B + 1) (fun k hk => by
      rw [List.length_set] at hk
      have := hQ k hk
      rw [getD_set]
      split
      · omega
      · omega) (by omega) hn'.2 (fun y hy => by rw [List.length_set]; exact hx y (List.mem_cons_of_mem _ hy)) j (by rw [List.length_set]; exact hj)
    rw [ih, getD_set]
    by_cases e : i = j
    · subst e
      rw [if_pos ⟨rfl, hj⟩, if_neg hn'.1, if_pos (List.mem_cons_self ..)]
      omega
    · rw [if_neg (fun g => e g.1)]
      have : ((j : Int) ∈ ((i : Int) :: xs)) ↔ (j : Int) ∈ xs := by
        rw [List.mem_cons]
        exact ⟨fun h => h.resolve_left (by omega), .inr⟩
      by_cases g : (j : Int) ∈ xs
      · rw [if_pos g, if_pos (this.2 g)]
      · rw [if_neg g, if_neg (fun h => g (this.1 h))]
section
variable {t : Int} {l : List Int}
noncomputable def top (t : Int) (l : List Int) : List Int := (ord (rm t l) l.length).take (moreN t l)
theorem len40 (ho : OkW l) : l.length ≤ 40 := by have := ho.1.2.1; omega
theorem top_mem (ho : OkW l) {x : Int} (h : x ∈ top t l) : 0 ≤ x ∧ x < l.length := (ord_mem (rm t l) (len40 ho)).1 (List.mem_of_mem_take h)
theorem top_nodup (ho : OkW l) : (top t l).Nodup := (ord_nodup (rm t l) (len40 ho)).sublist (List.take_sublist _ _)
noncomputable def parts (t : Int) (l : List Int) : List Int := incL (qP t l l.length) (top t l)
theorem parts_length : (parts t l).length = l.length := by unfold parts; rw [incL_length, qP_length]
theorem parts_at (ho : OkW l) (ht : InT t) (i : Nat) (hi : i < l.length) : (parts t l).getD i 0 = qt t l i + if (i : Int) ∈ top t l then 1 else 0 := by
  unfold parts
  have hf := qP_few ho ht
  rw [incL_at (top t l) (qP t l l.length) 1000000000000000 (fun j hj => by have := hf.at j hj; omega) (by
    have : (top t l).length ≤ (ord (rm t l) l.length).length := by unfold top; rw [List.length_take]; omega
    rw [ord_length _ (len40 ho)] at this
    have := len40 ho
    omega) (top_nodup ho) (fun x hx => by rw [qP_length]; exact top_mem ho hx) i (by rw [qP_length]; exact hi), qP_at t l l.length i hi]
theorem set_sum : ∀ (Q : List Int) (i : Nat) (x : Int), i < Q.length → (Q.set i x).sum = Q.sum + x - Q.getD i 0
  | [], i, x, h => by simp at h
  | y :: Q, 0, x, _ => by
    rw [List.set_cons_zero, List.sum_cons, List.sum_cons]
    show _ = y + Q.sum + x - y
    omega
  | y :: Q, i + 1, x, h => by
    rw [List.set_cons_succ, List.sum_cons, List.sum_cons, set_sum Q i x (by simpa using h)]
    show _ = y + Q.sum + x - Q.getD i 0
    omega
theorem incL_sum : ∀ (xs Q : List Int) (B : Int), (∀ j : Nat, j < Q.length → 0 ≤ Q.getD j 0 ∧ Q.getD j 0 ≤ B) → B + xs.length ≤ 4000000000000000000 → (∀ x ∈ xs, 0 ≤ x ∧ x < (Q.length : Int)) → (incL Q xs).sum = Q.sum + xs.length
  | [], Q, B, hQ, hB, hx => by
    show Q.sum = _
    simp
  | x :: xs, Q, B, hQ, hB, hx => by
    have hx0 := hx x (List.mem_cons_self ..)
    obtain ⟨i, rfl⟩ := Int.eq_ofNat_of_zero_le hx0.1
    have hi : i < Q.length := by omega
    have hq := hQ i hi
    rw [List.length_cons] at hB
    show (incL (Q.set (i : Int).toNat (wrap64 (rd Q (i : Int) + 1))) xs).sum = _
    rw [rdi, Int.toNat_natCast, w64_in _ (by omega) (by omega)]
    rw [incL_sum xs (Q.set i (Q.getD i 0 + 1)) (B + 1) (fun k hk => by
      rw [List.length_set] at hk
      have := hQ k hk
      rw [getD_set]
      split
      · omega
      · omega) (by omega) (fun y hy => by rw [List.length_set]; exact hx y (List.mem_cons_of_mem _ hy)), set_sum Q i _ hi, List.length_cons]
    omega
theorem parts_sum (ho : OkW l) (ht : InT t) : (parts t l).sum = t := by
  obtain ⟨m1, m2, m3⟩ := more_range ho ht
  have hmn : ((moreN t l : Nat) : Int) = t - (qP t l l.length).sum := by unfold moreN; omega
  have hf := qP_few ho ht
  have hl : (top t l).length = moreN t l := by
    unfold top
    rw [List.length_take, ord_length _ (len40 ho)]
    omega
  have := len40 ho
  unfold parts
  rw [incL_sum (top t l) (qP t l l.length) 1000000000000000 (fun j hj => by have := hf.at j hj; omega) (by omega) (fun x hx => by rw [qP_length]; exact top_mem ho hx), hl]
  omega
end
end Go.Proofs.Ytomanpmffjkkgaa.W6
namespace Go.Proofs.Ytomanpmffjkkgaa.E9
open Go Go.RowKit Go.Proofs.Ytomanpmffjkkgaa Go.Proofs.Ytomanpmffjkkgaa.P Go.Proofs.YtomanpmffjkkgaaW.PrintWords Go.Proofs.YtomanpmffjkkgaaW.PrintLast Go.Proofs.Ytomanpmffjkkgaa.EV Go.Proofs.Ytomanpmffjkkgaa.I1 Go.Proofs.Ytomanpmffjkkgaa.N1 Go.Proofs.Ytomanpmffjkkgaa.TI Go.Proofs.Ytomanpmffjkkgaa.E1 Go.Proofs.Ytomanpmffjkkgaa.E2 Go.Proofs.Ytomanpmffjkkgaa.E3 Go.Proofs.Ytomanpmffjkkgaa.E5 Go.Proofs.Ytomanpmffjkkgaa.E6 Go.Proofs.Ytomanpmffjkkgaa.E7 Go.Proofs.Ytomanpmffjkkgaa.E8
def wts (own : List SL) : List Int := own.map fun x => x.f3
def lft : List SL → List Int → List SL
  | x :: xs, p :: ps => if p = 0 then lft xs ps else ⟨x.f0, x.f1, x.f2, p, x.f4⟩ :: lft xs ps
  | _, _ => []
def lost : List SL → List Int → Int
  | x :: xs, p :: ps => if p = 0 then x.f4 + lost xs ps else lost xs ps
  | _, _ => 0
def more : List SL → Int → List SL
  | [], _ => []
  | x :: xs, c => ⟨x.f0, x.f1, x.f2, x.f3, x.f4 + c⟩ :: xs
def scl (own : List SL) (P : List Int) : List SL := more (lft own P) (lost own P)
theorem lft_len : ∀ (own : List SL) (P : List Int), (lft own P).length ≤ own.length
  | [], P => by simp [lft]
  | x :: xs, [] => by simp [lft]
  | x :: xs, p :: ps => by
    have := lft_len xs ps
    rw [lft]
    split
    · rw [List.length_cons]; omega
    · rw [List.length_cons, List.length_cons]; omega
theorem more_len : ∀ (L : List SL) (c : Int), (more L c).length = L.length
  | [], _ => rfl
  | _ :: _, _ => rfl
theorem lft_mem : ∀ (own : List SL) (P : List Int), ∀ y ∈ lft own P, ∃ x ∈ own, ∃ p ∈ P, p ≠ 0 ∧ y = ⟨x.f0, x.f1, x.f2, p, x.f4⟩
  | [], P, y, h => by simp [lft] at h
  | x :: xs, [], y, h => by simp [lft] at h
  | x :: xs, p :: ps, y, h => by
    rw [lft] at h
    by_cases e : p = 0
    · rw [if_pos e] at h
      obtain ⟨x', hx, p', hp, h1, h2⟩ := lft_mem xs ps y h
      exact ⟨x', List.mem_cons_of_mem _ hx, p', List.mem_cons_of_mem _ hp, h1, h2⟩
    · rw [if_neg e] at h
      rcases List.mem_cons.1 h with rfl | h
      · exact ⟨x, List.mem_cons_self .., p, List.mem_cons_self .., e, rfl⟩
      · obtain ⟨x', hx, p', hp, h1, h2⟩ := lft_mem xs ps y h
        exact ⟨x', List.mem_cons_of_mem _ hx, p', List.mem_cons_of_mem _ hp, h1, h2⟩
theorem lt_same {x y x' y' : SL} (h : Lt x y) (e1 : x'.f0 = x.f0 ∧ x'.f1 = x.f1 ∧ x'.f2 = x.f2) (e2 : y'.f0 = y.f0 ∧ y'.f1 = y.f1 ∧ y'.f2 = y.f2) : Lt x' y' := by
  unfold Lt at *
  rw [e1.1, e1.2.1, e1.2.2, e2.1, e2.2.1, e2.2.2]
  exact h
theorem lft_pw : ∀ (own : List SL) (P : List Int), own.Pairwise Lt → (lft own P).Pairwise Lt
  | [], P, _ => by simp [lft]
  | x :: xs, [], _ => by simp [lft]
  | x :: xs, p :: ps, h => by
    have h' := List.pairwise_cons.1 h
    rw [lft]
    split
    · exact lft_pw xs ps h'.2
    · refine List.pairwise_cons.2 ⟨fun y hy => ?_, lft_pw xs ps h'.2⟩
      obtain ⟨x', hx, p', _, _, rfl⟩ := lft_mem xs ps y hy
      exact lt_same (h'.1 x' hx) ⟨rfl, rfl, rfl⟩ ⟨rfl, rfl, rfl⟩
theorem more_pw : ∀ (L : List SL) (c : Int), L.Pairwise Lt → (more L c).Pairwise Lt
  | [], _, h => h
  | x :: xs, c, h => by
    have h' := List.pairwise_cons.1 h
    exact List.pairwise_cons.2 ⟨fun y hy => lt_same (h'.1 y hy) ⟨rfl, rfl, rfl⟩ ⟨rfl, rfl, rfl⟩, h'.2⟩
theorem more_key {a b : Int} : ∀ (L : List SL) (c : Int), (∀ x ∈ L, x.f0 = a ∧ x.f1 = b) → ∀ x ∈ more L c, x.f0 = a ∧ x.f1 = b
  | [], _, h => h
  | x :: xs, c, h => fun y hy => by
    rcases List.mem_cons.1 hy with rfl | hy
    · exact h x (List.mem_cons_self ..)
    · exact h y (List.mem_cons_of_mem _ hy)
theorem lft_sums : ∀ (own : List SL) (P : List Int), own.length = P.length → tot (lft own P) = P.sum ∧ all4 (lft own P) + lost own P = all4 own
  | [], P, h => by
    have : P = [] := List.length_eq_zero_iff.1 h.symm
    subst this
    exact ⟨rfl, rfl⟩
  | x :: xs, [], h => by simp at h
  | x :: xs, p :: ps, h => by
    have ih := lft_sums xs ps (by simpa using h)
    rw [lft, lost, List.sum_cons]
    by_cases e : p = 0
    · rw [if_pos e, if_pos e]
      simp only [all4]
      omega
    · rw [if_neg e, if_neg e]
      simp only [all4, tot]
      omega
theorem lost_pos : ∀ (own : List SL) (P : List Int), (∀ x ∈ own, E1.Form x) → 0 ≤ lost own P ∧ lost own P ≤ all4 own
  | [], P, _ => ⟨Int.le_refl _, Int.le_refl _⟩
  | x :: xs, [], h => ⟨Int.le_refl _, (all4_pos h).1⟩
  | x :: xs, p :: ps, h => by
    have ih := lost_pos xs ps fun y hy => h y (List.mem_cons_of_mem _ hy)
    have hx := h x (List.mem_cons_self ..)
    unfold E1.Form at hx
    rw [lost]
    simp only [all4]
    split <;> omega
theorem more_sums : ∀ (L : List SL) (c : Int), L ≠ [] → tot (more L c) = tot L ∧ all4 (more L c) = all4 L + c
  | [], _, h => absurd rfl h
  | x :: xs, c, _ => by
    refine ⟨rfl, ?_⟩
    show x.f4 + c + all4 xs = x.f4 + all4 xs + c
    omega
theorem wts_len (own : List SL) : (wts own).length = own.length := by unfold wts; rw [List.length_map]
theorem wts_sum : ∀ own : List SL, (wts own).sum = tot own
  | [] => rfl
  | x :: xs => by
    have := wts_sum xs
    unfold wts at *
    rw [List.map_cons, List.sum_cons, this]
    rfl
theorem wts_ok {a b : Int} {own : List SL} (h : Own' a b own) (h0 : own.length ≠ 0) (h1 : own.length ≤ 40) : W1.OkW (wts own) := by
  have hl := wts_len own
  have hm : ∀ x ∈ wts own, 0 ≤ x ∧ x ≤ 1000000000000000 := fun x hx => by
    obtain ⟨y, hy, rfl⟩ := List.mem_map.1 hx
    have := h.form y hy
    unfold E1.Form at this
    omega
  refine ⟨⟨by omega, by omega, hm⟩, ?_, by rw [wts_sum]; exact h.tot1⟩
  rw [wts_sum]
  have hf := h.form
  cases own with
  | nil => exact absurd rfl h0
  | cons x xs =>
    have h1 := hf x (List.mem_cons_self ..)
    have h2 := all4_pos (m := xs) fun y hy => hf y (List.mem_cons_of_mem _ hy)
    unfold E1.Form at h1
    simp only [tot]
    omega
noncomputable def scaleR (l : List SL) (a b q : Int) : List SL × Int :=
  if impl_LotsOk.ok l = true ∧ (0 ≤ q ∧ q ≤ 1000000000000000) then
    (if (ofL a b l).length = 0 then (if q = 0 then (l, 0) else (l, 2)) else if 40 < (ofL a b l).length then (l, 3) else (mergeL (outL a b l) (scl (ofL a b l) (W6.parts q (wts (ofL a b l)))), 0))
  else ([], 1)
theorem wts_take (own : List SL) (i : Nat) (h : i < own.length) : wts (own.take (i + 1)) = wts (own.take i) ++ [(own.getD i z37).f3] := by
  unfold wts
  rw [List.take_add_one, List.getElem?_eq_getElem h, List.map_append, List.getD_eq_getElem?_getD, List.getElem?_eq_getElem h]
  rfl
theorem set_more (L : List SL) (c : Int) (h : L ≠ []) (hc : ∀ x ∈ L, -1000000000000000000 ≤ x.f4 + c ∧ x.f4 + c ≤ 1000000000000000000) : L.set (0 : Int).toNat (⟨(rd_T37 L 0).f0, (rd_T37 L 0).f1, (rd_T37 L 0).f2, (rd_T37 L 0).f3, wrap64 (((rd_T37 L 0).f4) + c)⟩ : SL) = more L c := by
  cases L with
  | nil => exact absurd rfl h
  | cons x xs =>
    have := hc x (List.mem_cons_self ..)
    have e : rd_T37 (x :: xs) 0 = x := rfl
    rw [e, w64_in _ (by omega) (by omega)]
    rfl
theorem ne_pos {L : List SL} (h : L ≠ []) : 0 < L.length := List.length_pos_iff.2 h
theorem lft_drop (own : List SL) (P : List Int) (i : Nat) (h : i < own.length) (hp : i < P.length) :
    lft (own.drop i) (P.drop i) = (if P.getD i 0 = 0 then lft (own.drop (i + 1)) (P.drop (i + 1)) else (⟨(own.getD i z37).f0, (own.getD i z37).f1, (own.getD i z37).f2, P.getD i 0, (own.getD i z37).f4⟩ : SL) :: lft (own.drop (i + 1)) (P.drop (i + 1))) ∧
    lost (own.drop i) (P.drop i) = (if P.getD i 0 = 0 then (own.getD i z37).f4 + lost (own.drop (i + 1)) (P.drop (i + 1)) else lost (own.drop (i + 1)) (P.drop (i + 1))) := by
  rw [drop_getD z37 own i h, drop_getD 0 P i hp]
  exact ⟨rfl, rfl⟩
theorem scale_l1s (own rest : List SL) (P : List Int) (R : List SL × Int) (hl : own.length = P.length) (hn : own.length ≤ 120) (_hr : rest.length ≤ 1048576) (hf : ∀ x ∈ own, E1.Form x)
    (hR : ∀ L : List SL, L = scl own P → Ev (fun k => (spec_l5Merge.f k rest L).bind fun t => some (t, (0 : Int))) R) :
    ∀ (d i : Nat) (L : List SL) (c : Int), own.length - i = d → i ≤ own.length → L.length ≤ i → (∀ x ∈ L, 0 ≤ x.f4 ∧ x.f4 ≤ 1000000000000000) → 0 ≤ c → c ≤ i * 1000000000000000 → L ++ lft (own.drop i) (P.drop i) = lft own P → c + lost (own.drop i) (P.drop i) = lost own P →
    Ev (fun k => spec_LotsScale.l1 k own rest P L c (i : Int)) R := by
  intro d
  induction d with
  | zero =>
    intro i L c hd hi hL h4 c0 c1 e1 e2
    obtain rfl : i = own.length := by omega
    rw [List.drop_length] at e1 e2
    have e1' : L = lft own P := by rw [← e1]; show L = L ++ []; rw [List.append_nil]
    have e2' : c = lost own P := by rw [← e2]; show c = c + 0; omega
    by_cases h : L = []
    · refine Ev.step (fun k => ?_) (hR L (by unfold scl; rw [← e1', h]; rfl))
      simp only [spec_LotsScale.l1]
      rw [if_neg (by omega), h, if_neg (by decide)]
    · have hp := ne_pos h
      refine Ev.step (fun k => ?_) (hR (more L c) (by unfold scl; rw [← e1', ← e2']))
      simp only [spec_LotsScale.l1]
      rw [if_neg (by omega), if_pos (by omega), if_pos (by omega), set_more L c h (fun x hx => by have := h4 x hx; omega)]
  | succ d ih =>
    intro i L c hd hi hL h4 c0 c1 e1 e2
    obtain ⟨d1, d2⟩ := lft_drop own P i (by omega) (by omega)
    rw [d1] at e1
    rw [d2] at e2
    have hx : own.getD i z37 ∈ own := by
      rw [List.getD_eq_getElem?_getD, List.getElem?_eq_getElem (by omega : i < own.length)]
      exact List.getElem_mem _
    have hfx := hf _ hx
    unfold E1.Form at hfx
    by_cases g : P.getD i 0 = 0
    · rw [if_pos g] at e1 e2
      refine Ev.step (fun k => ?_) (ih (i + 1) L (c + (own.getD i z37).f4) (by omega) (by omega) (by omega) h4 (by omega) (by omega) e1 (by omega))
      simp only [spec_LotsScale.l1]
      rw [if_pos (by omega), if_pos (by omega), if_pos (by omega), rdi, if_pos g, rdL, w_succ (by omega : i < own.length) (by omega), w64_in _ (by omega) (by omega)]
    · rw [if_neg g] at e1 e2
      refine Ev.step (fun k => ?_) (ih (i + 1) (L ++ [⟨(own.getD i z37).f0, (own.getD i z37).f1, (own.getD i z37).f2, P.getD i 0, (own.getD i z37).f4⟩]) c (by omega) (by omega) (by rw [List.length_append, List.length_singleton]; omega) (fun x hx => by
        rcases List.mem_append.1 hx with h | h
        · exact h4 x h
        · rw [List.mem_singleton.1 h]
          dsimp only
          omega) c0 (by omega) (by rw [List.append_assoc]; exact e1) e2)
      simp only [spec_LotsScale.l1]
      rw [if_pos (by omega), if_pos (by omega), if_pos (by omega), rdi, if_neg g, if_pos (by omega), rdL, w_succ (by omega : i < own.length) (by omega)]
theorem scale_l1i (l : List SL) (a b : Int) (own : List SL) (P : List Int) (R : List SL × Int) (hl : own.length = P.length) (hn : own.length ≤ 120) (hf : ∀ x ∈ own, E1.Form x)
    (hR : ∀ L : List SL, L = scl own P → Ev (fun _ => (impl_withLots.f l a b L).bind fun t => some (t, (0 : Int))) R) :
    ∀ (d i : Nat) (L : List SL) (c : Int), own.length - i = d → i ≤ own.length → L.length ≤ i → (∀ x ∈ L, 0 ≤ x.f4 ∧ x.f4 ≤ 1000000000000000) → 0 ≤ c → c ≤ i * 1000000000000000 → L ++ lft (own.drop i) (P.drop i) = lft own P → c + lost (own.drop i) (P.drop i) = lost own P →
    Ev (fun k => impl_LotsScale.l1 k l a b P L c own (own.length : Int) (i : Int)) R := by
  intro d
  induction d with
  | zero =>
    intro i L c hd hi hL h4 c0 c1 e1 e2
    obtain rfl : i = own.length := by omega
    rw [List.drop_length] at e1 e2
    have e1' : L = lft own P := by rw [← e1]; show L = L ++ []; rw [List.append_nil]
    have e2' : c = lost own P := by rw [← e2]; show c = c + 0; omega
    by_cases h : L = []
    · refine Ev.step (fun k => ?_) (hR L (by unfold scl; rw [← e1', h]; rfl))
      simp only [impl_LotsScale.l1]
      rw [if_neg (by omega), h, if_neg (by decide)]
    · have hp := ne_pos h
      refine Ev.step (fun k => ?_) (hR (more L c) (by unfold scl; rw [← e1', ← e2']))
      simp only [impl_LotsScale.l1]
      rw [if_neg (by omega), if_pos (by omega), if_pos (by omega), set_more L c h (fun x hx => by have := h4 x hx; omega)]
  | succ d ih =>
    intro i L c hd hi hL h4 c0 c1 e1 e2
    obtain ⟨d1, d2⟩ := lft_drop own P i (by omega) (by omega)
    rw [d1] at e1
    rw [d2] at e2
    have hx : own.getD i z37 ∈ own := by
      rw [List.getD_eq_getElem?_getD, List.getElem?_eq_getElem (by omega : i < own.length)]
      exact List.getElem_mem _
    have hfx := hf _ hx
    unfold E1.Form at hfx
    by_cases g : P.getD i 0 = 0
    · rw [if_pos g] at e1 e2
      refine Ev.step (fun k => ?_) (ih (i + 1) L (c + (own.getD i z37).f4) (by omega) (by omega) (by omega) h4 (by omega) (by omega) e1 (by omega))
      simp only [impl_LotsScale.l1]
      rw [if_pos (by omega), if_pos (by omega), if_pos (by omega), if_pos (by omega), rdi, if_pos g, rdL, w_succ (by omega : i < own.length) (by omega), w64_in _ (by omega) (by omega)]
    · rw [if_neg g] at e1 e2
      refine Ev.step (fun k => ?_) (ih (i + 1) (L ++ [⟨(own.getD i z37).f0, (own.getD i z37).f1, (own.getD i z37).f2, P.getD i 0, (own.getD i z37).f4⟩]) c (by omega) (by omega) (by rw [List.length_append, List.length_singleton]; omega) (fun x hx => by
        rcases List.mem_append.1 hx with h | h
        · exact h4 x h
        · rw [List.mem_singleton.1 h]
          dsimp only
          omega) c0 (by omega) (by rw [List.append_assoc]; exact e1) e2)
      simp only [impl_LotsScale.l1]
      rw [if_pos (by omega), if_pos (by omega), if_pos (by omega), if_pos (by omega), rdi, if_neg g, if_pos (by omega), rdL, w_succ (by omega : i < own.length) (by omega)]
theorem shares_wts {a b : Int} {own : List SL} (h : Own' a b own) (h0 : own.length ≠ 0) (h1 : own.length ≤ 40) (q : Int) (hq : 0 ≤ q ∧ q ≤ 1000000000000000) : W4.sharesR q (wts own) = (W6.parts q (wts own), true) := by
  unfold W4.sharesR
  rw [if_pos ⟨(W1.okW_iff _).2 (wts_ok h h0 h1), hq⟩]
  rfl
theorem scl_len (own : List SL) (P : List Int) : (scl own P).length ≤ own.length := by
  unfold scl
  rw [more_len]
  exact lft_len own P
theorem scl_pw {a b : Int} {own : List SL} (h : Own' a b own) (P : List Int) : (scl own P).Pairwise Lt := more_pw _ _ (lft_pw own P h.pw)
theorem scl_key {a b : Int} {own : List SL} (h : Own' a b own) (P : List Int) : ∀ x ∈ scl own P, x.f0 = a ∧ x.f1 = b := by
  refine more_key _ _ fun y hy => ?_
  obtain ⟨x, hx, _, _, _, rfl⟩ := lft_mem own P y hy
  exact h.key x hx
theorem wts_s (own rest : List SL) (q : Int) (R : List SL × Int) (hn : own.length ≤ 120) (hR : Ev (fun k => (spec_Shares.f k q (wts own)).bind fun bt992 => (spec_LotsScale.l1 k own rest bt992.1 (([] : List SL)) 0 0)) R) :
    ∀ (d i : Nat), own.length - i = d → i ≤ own.length → Ev (fun k => spec_LotsScale.l0 k q own rest (wts (own.take i)) (i : Int)) R := by
  intro d
  induction d with
  | zero =>
    intro i hd hi
    obtain rfl : i = own.length := by omega
    refine Ev.step (fun k => ?_) hR
    simp only [spec_LotsScale.l0]
    rw [if_neg (by omega), List.take_length]
  | succ d ih =>
    intro i hd hi
    refine Ev.step (fun k => ?_) (ih (i + 1) (by omega) (by omega))
    simp only [spec_LotsScale.l0]
    rw [if_pos (by omega), if_pos (by omega), if_pos (by rw [wts_len, List.length_take]; omega), rdL, wts_take own i (by omega), w_succ (by omega : i < own.length) (by omega)]
theorem wts_i (l : List SL) (a b : Int) (own : List SL) (q : Int) (R : List SL × Int) (hn : own.length ≤ 120) (hR : Ev (fun k => (impl_Shares.f k q (wts own)).bind fun bt1061 => (impl_LotsScale.l1 k l a b bt1061.1 (([] : List SL)) 0 own (own.length : Int) 0)) R) :
    ∀ (d i : Nat), own.length - i = d → i ≤ own.length → Ev (fun k => impl_LotsScale.l0 k l a b q own (wts (own.take i)) own (own.length : Int) (i : Int)) R := by
  intro d
  induction d with
  | zero =>
    intro i hd hi
    obtain rfl : i = own.length := by omega
    refine Ev.step (fun k => ?_) hR
    simp only [impl_LotsScale.l0]
    rw [if_neg (by omega), List.take_length]
  | succ d ih =>
    intro i hd hi
    refine Ev.step (fun k => ?_) (ih (i + 1) (by omega) (by omega))
    simp only [impl_LotsScale.l0]
    rw [if_pos (by omega), if_pos (by omega), if_pos (by omega), if_pos (by rw [wts_len, List.length_take]; omega), rdL, wts_take own i (by omega), w_succ (by omega : i < own.length) (by omega)]
theorem scale_s (l : List SL) (a b q : Int) (hl : l.length ≤ 1048576) : Ev (fun k => spec_LotsScale.f k l a b q) (scaleR l a b q) := by
  unfold spec_LotsScale.f scaleR
  refine Ev_bind (lotsOk_s l) ?_
  have bad : Ev (fun k => spec_LotsScale.j0 k l a b q true) (([] : List SL), (1 : Int)) := Ev_one fun k => by
    simp only [spec_LotsScale.j0]
    rw [if_pos trivial]
  by_cases h : impl_LotsOk.ok l = true
  · by_cases hq : 0 ≤ q ∧ q ≤ 1000000000000000
    · rw [if_pos ⟨h, hq⟩]
      have hR := (ok_iff l).1 h
      have hO := own_of hR a b
      have hrest := out_len a b l
      refine Ev.congr (f := fun k => spec_LotsScale.j0 k l a b q false) (fun k => by rw [if_pos h, E1.some_s, Option.bind_some, decide_eq_true hq]; rfl) ?_
      have hS := split_s l a b (by omega)
      generalize outL a b l = rest at *
      generalize ofL a b l = own at *
      refine Ev.step (f := fun k => (spec_l5Split.f k l a b).bind fun bt973 => ((some (([] : List SL) : List SL)).bind fun y979 => (if y979.length + l.length < 3518437208883 then ((some (y979 ++ l : List SL)).bind fun y982 => (if (bt973.1.length : Int) = 0 then (spec_LotsScale.j1 k q bt973.1 bt973.2 y982 (decide (q > 0))) else (spec_LotsScale.j1 k q bt973.1 bt973.2 y982 false))) else (none)))) (fun k => ?_) (Ev_bind hS ?_)
      · simp only [spec_LotsScale.j0]
        rw [if_neg (by decide)]
      · refine Ev.congr (f := fun k => if (own.length : Int) = 0 then spec_LotsScale.j1 k q own rest l (decide (q > 0)) else spec_LotsScale.j1 k q own rest l false) (fun k => by rw [Option.bind_some, if_pos (by rw [List.length_nil]; omega), Option.bind_some, List.nil_append]) ?_
        have hlen := hO.len
        by_cases h0 : own.length = 0
        · rw [if_pos h0]
          refine Ev.congr (fun k => if_pos (by omega)) ?_
          by_cases g : q = 0
          · rw [if_pos g]
            exact Ev_one fun k => by
              simp only [spec_LotsScale.j1]
              rw [decide_eq_false (by omega : ¬ q > 0), if_neg (by decide), if_pos (by omega)]
          · rw [if_neg g]
            exact Ev_one fun k => by
              simp only [spec_LotsScale.j1]
              rw [decide_eq_true (by omega : q > 0), if_pos rfl]
        · rw [if_neg h0]
          refine Ev.congr (fun k => if_neg (by omega)) ?_
          by_cases h4 : 40 < own.length
          · rw [if_pos h4]
            exact Ev_one fun k => by
              simp only [spec_LotsScale.j1]
              rw [if_neg (by decide), if_neg (by omega), if_pos (by omega)]
          · rw [if_neg h4]
            have hsh := W4.shares_s q (wts own)
            rw [shares_wts hO h0 (by omega) q hq] at hsh
            have hpl : own.length = (W6.parts q (wts own)).length := by rw [W6.parts_length, wts_len]
            have hsl := scl_len own (W6.parts q (wts own))
            refine Ev.step (fun k => ?_) (wts_s own rest q _ hlen (Ev_bind hsh (scale_l1s own rest _ _ hpl hlen (by omega) hO.form (fun L hL => ?_) own.length 0 [] 0 (by omega) (by omega) (by decide) (fun x hx => by cases hx) (by omega) (by omega) (by rw [List.nil_append]; rfl) (by rw [Int.zero_add]; rfl))) own.length 0 (by omega) (by omega))
            · simp only [spec_LotsScale.j1]
              rw [if_neg (by decide), if_neg (by omega), if_neg (by omega)]
              rfl
            · subst hL
              exact Ev_bind (merge_s rest _ (by omega)) (Ev.now _)
    · rw [if_neg (fun g => hq g.2)]
      exact Ev.congr (fun k => by rw [if_pos h, E1.some_s, Option.bind_some, decide_eq_false hq]; rfl) bad
  · rw [if_neg (fun g => h g.1)]
    exact Ev.congr (fun k => by rw [if_neg h]) bad
theorem scale_i (l : List SL) (a b q : Int) (hl : l.length ≤ 1048576) : Ev (fun k => impl_LotsScale.f k l a b q) (scaleR l a b q) := by
  unfold impl_LotsScale.f scaleR
  have okf : impl_LotsOk.f l = some (impl_LotsOk.ok l) := by
    unfold impl_LotsOk.f
    rw [if_pos (by omega)]
  have bad : Ev (fun k => impl_LotsScale.j0 k l a b q true) (([] : List SL), (1 : Int)) := Ev_one fun k => by
    simp only [impl_LotsScale.j0]
    rw [if_pos trivial]
  by_cases h : impl_LotsOk.ok l = true
  · by_cases hq : 0 ≤ q ∧ q ≤ 1000000000000000
    · rw [if_pos ⟨h, hq⟩]
      have hR := (ok_iff l).1 h
      have hO := own_of hR a b
      refine Ev.congr (f := fun k => impl_LotsScale.j0 k l a b q false) (fun k => by rw [okf, Option.bind_some, if_pos h, in_i, Option.bind_some, decide_eq_true hq]; rfl) ?_
      have hf : impl_lotsOf.f l a b = some (ofL a b l) := by
        unfold impl_lotsOf.f
        rw [if_pos (by omega)]
        rfl
      have c1 : impl_Lot_55.f l = some l := by
        unfold impl_Lot_55.f
        rw [Option.bind_some, if_pos (by simp; omega), List.nil_append]
      have hwith := fun m => with_i l a b m m hl
      have hlen := hO.len
      obtain ⟨own, ho⟩ : ∃ own, own = ofL a b l := ⟨_, rfl⟩
      rw [← ho] at hO hf hlen ⊢
      refine Ev.step (f := fun k => if (own.length : Int) = 0 then impl_LotsScale.j1 k l a b q l own (q != 0) else impl_LotsScale.j1 k l a b q l own false) (fun k => ?_) ?_
      · simp only [impl_LotsScale.j0]
        rw [if_neg (by decide), c1, Option.bind_some, hf, Option.bind_some]
      · by_cases h0 : own.length = 0
        · rw [if_pos h0]
          refine Ev.congr (fun k => if_pos (by omega)) ?_
          by_cases g : q = 0
          · rw [if_pos g]
            exact Ev_one fun k => by
              simp only [impl_LotsScale.j1]
              rw [g, if_neg (by decide), if_pos (by omega)]
          · rw [if_neg g]
            exact Ev_one fun k => by
              simp only [impl_LotsScale.j1]
              rw [if_pos (bne_iff_ne.2 g)]
        · rw [if_neg h0]
          refine Ev.congr (fun k => if_neg (by omega)) ?_
          by_cases h4 : 40 < own.length
          · rw [if_pos h4]
            exact Ev_one fun k => by
              simp only [impl_LotsScale.j1]
              rw [if_neg (by decide), if_neg (by omega), if_pos (by omega)]
          · rw [if_neg h4]
            have hsh := W4.shares_i q (wts own)
            rw [shares_wts hO h0 (by omega) q hq] at hsh
            have hpl : own.length = (W6.parts q (wts own)).length := by rw [W6.parts_length, wts_len]
            have hsl := scl_len own (W6.parts q (wts own))
            refine Ev.step (fun k => ?_) (wts_i l a b own q _ hlen (Ev_bind hsh (scale_l1i l a b own _ _ hpl hlen hO.form (fun L hL => ?_) own.length 0 [] 0 (by omega) (by omega) (by decide) (fun x hx => by cases hx) (by omega) (by omega) (by rw [List.nil_append]; rfl) (by rw [Int.zero_add]; rfl))) own.length 0 (by omega) (by omega))
            · simp only [impl_LotsScale.j1]
              rw [if_neg (by decide), if_neg (by omega), if_neg (by omega)]
              rfl
            · subst hL
              have hw := hwith (scl own (W6.parts q (wts own))) (by omega) (right_pw hR.2.2.1) (List.Perm.refl _) (scl_pw hO _) (scl_key hO _)
              exact Ev_bind (Ev_all_k fun k => hw.1) (Ev.now _)
    · rw [if_neg (fun g => hq g.2)]
      exact Ev.congr (fun k => by rw [okf, Option.bind_some, if_pos h, in_i, Option.bind_some, decide_eq_false hq]; rfl) bad
  · rw [if_neg (fun g => h g.1)]
    exact Ev.congr (fun k => by rw [okf, Option.bind_some, if_neg h]) bad
theorem scale_right {l : List SL} (hR : E1.Right l) (a b q : Int) (h0 : (ofL a b l).length ≠ 0) (h1 : (ofL a b l).length ≤ 40) (hq : 0 ≤ q ∧ q ≤ 1000000000000000) :
    E1.Right (mergeL (outL a b l) (scl (ofL a b l) (W6.parts q (wts (ofL a b l))))) ∧ tot (scl (ofL a b l) (W6.parts q (wts (ofL a b l)))) = q ∧
    (scl (ofL a b l) (W6.parts q (wts (ofL a b l))) ≠ [] → all4 (scl (ofL a b l) (W6.parts q (wts (ofL a b l)))) = all4 (ofL a b l)) := by
  have hO := own_of hR a b
  have e3 := (List.filter_append_perm (Own a b) l).length_eq
  rw [List.length_append] at e3
  have e4 : (ofL a b l).length + (outL a b l).length = l.length := e3
  have hof : ∀ s : List SL, (∀ x ∈ s, x.f0 = a ∧ x.f1 = b) → ofL a b (mergeL (outL a b l) s) = s := fun s => of_own l
  have hoo : ∀ (s : List SL) (c d : Int), (∀ x ∈ s, x.f0 = a ∧ x.f1 = b) → ¬(c = a ∧ d = b) → ofL c d (mergeL (outL a b l) s) = ofL c d l := fun s c d hs hn => of_other l hs hn
  obtain ⟨own, ho⟩ : ∃ own, own = ofL a b l := ⟨_, rfl⟩
  rw [← ho] at hO h0 h1 e4 ⊢
  have hw := wts_ok hO h0 h1
  obtain ⟨P, hP⟩ : ∃ P, P = W6.parts q (wts own) := ⟨_, rfl⟩
  have hpl : own.length = P.length := by rw [hP, W6.parts_length, wts_len]
  have hps : P.sum = q := by rw [hP]; exact W6.parts_sum hw hq
  have hpm : ∀ p ∈ P, 0 ≤ p ∧ p ≤ 1000000000000000 := by
    intro p hp
    have h0' : ∀ x ∈ P, 0 ≤ x := by
      intro x hx
      obtain ⟨i, hi, rfl⟩ := List.getElem_of_mem hx
      have hi' : i < (wts own).length := by rw [wts_len]; omega
      have := W6.parts_at hw hq i hi'
      have qr := W4.qt_range hw hq i hi'
      rw [← hP, List.getD_eq_getElem?_getD, List.getElem?_eq_getElem hi] at this
      have h2 : P[i] = W4.qt q (wts own) i + if (i : Int) ∈ W6.top q (wts own) then 1 else 0 := this
      rw [h2]
      split <;> omega
    have := W4.le_sum P h0' p hp
    have := h0' p hp
    omega
  rw [← hP]
  have hs := lft_sums own P hpl
  have hlp := lost_pos own P hO.form
  have hk := scl_key hO P
  have hpw := scl_pw hO P
  have hsl := scl_len own P
  have hall := hO.all1
  have hlf : ∀ x ∈ lft own P, E1.Form x := by
    intro x hx
    obtain ⟨y, hy, p, hp, hp0, rfl⟩ := lft_mem own P x hx
    have hf := hO.form y hy
    have hb := hpm p hp
    unfold E1.Form at hf ⊢
    dsimp only
    exact ⟨hf.1, hf.2.1, hf.2.2.1, by omega, hf.2.2.2.2⟩
  have hlpos := all4_pos hlf
  have hsum : tot (scl own P) = q ∧ (scl own P ≠ [] → all4 (scl own P) = all4 own) := by
    unfold scl
    by_cases e : lft own P = []
    · rw [e] at hs ⊢
      refine ⟨?_, fun g => absurd rfl g⟩
      show (0 : Int) = q
      rw [← hps, ← hs.1]
      rfl
    · have hm := more_sums (lft own P) (lost own P) e
      rw [hm.1, hm.2, hs.1, hps]
      exact ⟨rfl, fun _ => hs.2⟩
  have hform : ∀ x ∈ scl own P, E1.Form x := by
    have hle : ∀ (L : List SL) (c : Int), (∀ x ∈ L, E1.Form x) → 0 ≤ c → all4 L + c ≤ 1000000000000000 → ∀ x ∈ more L c, E1.Form x := by
      intro L c hL hc hall
      cases L with
      | nil => exact hL
      | cons y ys =>
        have h1 := hL y (List.mem_cons_self ..)
        have h2 := all4_pos (m := ys) fun z hz => hL z (List.mem_cons_of_mem _ hz)
        intro x hx
        rcases List.mem_cons.1 hx with rfl | hx
        · unfold E1.Form at h1 ⊢
          simp only [all4] at hall
          dsimp only
          exact ⟨h1.1, h1.2.1, h1.2.2.1, h1.2.2.2.1, by omega, by omega⟩
        · exact hL x (List.mem_cons_of_mem _ hx)
    exact hle _ _ hlf hlp.1 (by omega)
  have hw2 := with_i l a b (scl own P) (scl own P) (by have := hR.1; omega) (by have := hR.1; omega) (right_pw hR.2.2.1) (List.Perm.refl _) hpw hk
  refine ⟨⟨?_, fun x hx => ?_, pw_chn0 hw2.2, fun c d => ?_⟩, hsum⟩
  · rw [merge_len]
    have := hR.1
    omega
  · rcases List.mem_append.1 ((merge_perm _ _).mem_iff.1 hx) with h | h
    · exact hR.2.1 x (List.mem_filter.1 h).1
    · exact hform x h
  · rw [← (tot_of c d _).1, ← (tot_of c d _).2]
    by_cases hc : c = a ∧ d = b
    · obtain ⟨rfl, rfl⟩ := hc
      rw [hof _ hk, hsum.1]
      have e1 := all4_pos hform
      have e2 : all4 (scl own P) ≤ 1000000000000000 := by
        by_cases e : scl own P = []
        · rw [e]
          decide
        · rw [hsum.2 e]
          exact hall
      unfold Amt
      omega
    · rw [hoo _ c d hk hc, (tot_of c d l).1, (tot_of c d l).2]
      exact hR.2.2.2 c d
end Go.Proofs.Ytomanpmffjkkgaa.E9
namespace Go.Proofs.Ytomanpmffjkkgaa.D5
open Go Go.RowKit Go.Proofs.Ytomanpmffjkkgaa.P Go.Proofs.YtomanpmffjkkgaaW.PrintWords Go.Proofs.YtomanpmffjkkgaaW.PrintLast Go.Proofs.Ytomanpmffjkkgaa.EV Go.Proofs.Ytomanpmffjkkgaa.D1 Go.Proofs.Ytomanpmffjkkgaa.I1 Go.Proofs.Ytomanpmffjkkgaa.N1 Go.Proofs.Ytomanpmffjkkgaa.E1 Go.Proofs.Ytomanpmffjkkgaa.E2 Go.Proofs.Ytomanpmffjkkgaa.E4
theorem below_any (b : List Int) (i h n : Int) (hv : V b i) : ∃ x i' h', spec_l1Below.f b i h n = some (x, i', h') ∧ 0 ≤ x ∧ (0 < n → x < n) ∧ V b i' := by
  unfold spec_l1Below.f
  by_cases h0 : n ≤ 0
  · rw [if_pos h0]
    exact ⟨_, _, _, rfl, by omega, fun h => by omega, hv⟩
  · rw [if_neg h0]
    by_cases h1 : n ≤ 256
    · rw [if_pos h1]
      obtain ⟨x, i1, g1, e1, x0, x1, v1⟩ := byte_ok b i h hv
      rw [e1, Option.bind_some, if_neg (by omega)]
      refine ⟨_, _, _, rfl, ?_, fun _ => ?_, v1⟩
      · show 0 ≤ Int.tmod x n
        rw [Int.tmod_eq_emod_of_nonneg x0]
        exact Int.emod_nonneg _ (by omega)
      · show Int.tmod x n < n
        rw [Int.tmod_eq_emod_of_nonneg x0]
        exact Int.emod_lt_of_pos _ (by omega)
    · rw [if_neg h1]
      obtain ⟨x, i1, g1, e1, x0, x1, v1⟩ := byte_ok b i h hv
      rw [e1, Option.bind_some]
      obtain ⟨y, i2, g2, e2, y0, y1, v2⟩ := byte_ok b i1 g1 v1
      simp only [e2, Option.bind_some]
      obtain ⟨z, i3, g3, e3, z0, z1, v3⟩ := byte_ok b i2 g2 v2
      simp only [e3, Option.bind_some]
      obtain ⟨u, i4, g4, e4, u0, u1, v4⟩ := byte_ok b i3 g3 v3
      simp only [e4, Option.bind_some]
      rw [if_neg (by omega), w64_in (x * 16777216) (by omega) (by omega), w64_in (y * 65536) (by omega) (by omega), w64_in (z * 256) (by omega) (by omega),
        w64_in (x * 16777216 + y * 65536) (by omega) (by omega), w64_in (x * 16777216 + y * 65536 + z * 256) (by omega) (by omega), w64_in (x * 16777216 + y * 65536 + z * 256 + u) (by omega) (by omega)]
      refine ⟨_, _, _, rfl, ?_, fun _ => ?_, v4⟩
      · rw [Int.tmod_eq_emod_of_nonneg (by omega)]
        exact Int.emod_nonneg _ (by omega)
      · rw [Int.tmod_eq_emod_of_nonneg (by omega)]
        exact Int.emod_lt_of_pos _ (by omega)
theorem drawNo_any (b : List Int) (i h : Int) (hv : V b i) : ∃ x i' h', spec_l3DrawNo.f b i h = some (x, i', h') ∧ V b i' := by
  unfold spec_l3DrawNo.f
  obtain ⟨x, i1, g1, e1, v1⟩ := once_ok b i h 15 hv (by decide)
  rw [e1, Option.bind_some]
  cases x with
  | true =>
    obtain ⟨y, i2, g2, e2, _, v2⟩ := pick_ok b i1 g1 [0, (-1), 1000, 1001] v1 (by decide) (by decide)
    refine ⟨y, i2, g2, ?_, v2⟩
    dsimp only
    rw [if_pos rfl, e2]
    rfl
  | false =>
    obtain ⟨y, i2, g2, e2, _, _, _, v2⟩ := below_ok b i1 g1 9 v1 (by decide)
    refine ⟨wrap64 (1 + y), i2, g2, ?_, v2⟩
    dsimp only
    rw [if_neg (by decide), e2]
    rfl
theorem lots_e (b : List Int) (n i : Int) (l : List SL) (c h : Int) (hin : ¬ i < n) (hl : l.length ≤ 1000) (hv : V b c) : ∃ r c' h', (∀ k, spec_l5DrawLots.l0 (k + 1) l n i b c h = some (r, c', h')) ∧ r.length ≤ 1001 ∧ V b c' := by
  obtain ⟨x, i1, g1, e1, _, _, v1⟩ := below_any b c h 25 hv
  by_cases h0 : x = 0
  · by_cases h2 : (l.length : Int) > 0
    · obtain ⟨y, i2, g2, e2, _, v2⟩ := pick_ok b i1 g1 [0, (-1), 1000000000000000, 1000000000000001] v1 (by decide) (by decide)
      refine ⟨l.set (0 : Int).toNat (⟨(rd_T37 l 0).f0, (rd_T37 l 0).f1, (rd_T37 l 0).f2, y, (rd_T37 l 0).f4⟩ : SL), i2, g2, fun k => ?_, by rw [List.length_set]; omega, v2⟩
      simp only [spec_l5DrawLots.l0]
      rw [if_neg hin, e1, Option.bind_some, if_pos h0, if_pos h2, e2, Option.bind_some, if_pos (by omega)]
    · refine ⟨l, i1, g1, fun k => ?_, by omega, v1⟩
      simp only [spec_l5DrawLots.l0]
      rw [if_neg hin, e1, Option.bind_some, if_pos h0, if_neg h2]
  · by_cases h1 : x = 1
    · obtain ⟨y, i2, g2, e2, v2⟩ := drawNo_any b i1 g1 v1
      obtain ⟨z, i3, g3, e3, _, _, v3⟩ := below_any b i2 g2 3 v2
      refine ⟨l ++ [⟨y, 1, z, 1, 0⟩], i3, g3, fun k => ?_, by simp; omega, v3⟩
      simp only [spec_l5DrawLots.l0]
      rw [if_neg hin, e1, Option.bind_some, if_neg h0, if_pos h1]
      simp only [e2, e3, Option.bind_some]
      rw [if_pos (by omega)]
    · refine ⟨l, i1, g1, fun k => ?_, by omega, v1⟩
      simp only [spec_l5DrawLots.l0]
      rw [if_neg hin, e1, Option.bind_some, if_neg h0, if_neg h1]
theorem lots_l (b : List Int) (n : Int) (hn : n ≤ 120) : ∀ (d : Nat) (i : Int) (l : List SL) (c h : Int), (n - i).toNat = d → 0 ≤ i → (l.length : Int) ≤ i → i ≤ n ∨ i = 0 → V b c → ∃ r c' h', Ev (fun k => spec_l5DrawLots.l0 k l n i b c h) (r, c', h') ∧ r.length ≤ 1001 ∧ V b c' := by
  intro d
  induction d with
  | zero =>
    intro i l c h hd hi hl hin hv
    obtain ⟨r, c', h', hr, h2, h3⟩ := lots_e b n i l c h (by omega) (by omega) hv
    exact ⟨r, c', h', Ev_one hr, h2, h3⟩
  | succ d ih =>
    intro i l c h hd hi hl hin hv
    have hw2 : wrap64 (i + 1) = i + 1 := w64_in _ (by omega) (by omega)
    obtain ⟨x, i1, g1, e1, _, _, v1⟩ := below_any b c h 3 hv
    obtain ⟨y, i2, g2, e2, _, _, v2⟩ := below_any b i1 g1 2 v1
    obtain ⟨z, i3, g3, e3, _, _, v3⟩ := below_any b i2 g2 (wrap64 (20 + (wrap64 (2 * n)))) v2
    obtain ⟨u, i4, g4, e4, _, _, v4⟩ := below_any b i3 g3 30 v3
    obtain ⟨v, i5, g5, e5, _, _, v5⟩ := below_any b i4 g4 500 v4
    obtain ⟨o, ho⟩ : ∃ o, o = openL l ⟨wrap64 (1 + x), wrap64 (1 + y), wrap64 (1 + z), wrap64 (1 + u), v⟩ := ⟨_, rfl⟩
    have hp : Ev (fun k => spec_LotOpen.f k l (wrap64 (1 + x)) (wrap64 (1 + y)) (wrap64 (1 + z)) (wrap64 (1 + u)) v) o := by rw [ho]; exact open_s l ⟨wrap64 (1 + x), wrap64 (1 + y), wrap64 (1 + z), wrap64 (1 + u), v⟩ (by omega)
    have hol : o.1.length ≤ l.length + 1 := by rw [ho]; exact open_len _ _
    have e : ∀ k, spec_l5DrawLots.l0 (k + 1) l n i b c h = (spec_LotOpen.f k l (wrap64 (1 + x)) (wrap64 (1 + y)) (wrap64 (1 + z)) (wrap64 (1 + u)) v).bind fun t => if t.2 = 0 then spec_l5DrawLots.l0 k t.1 n (i + 1) b i5 g5 else spec_l5DrawLots.l0 k l n (i + 1) b i5 g5 := by
      intro k
      simp only [spec_l5DrawLots.l0]
      rw [if_pos (by omega), e1, Option.bind_some]
      simp only [e2, e3, e4, e5, Option.bind_some, hw2]
    by_cases ho2 : o.2 = 0
    · obtain ⟨r, c', h', hr, h2, h3⟩ := ih (i + 1) o.1 i5 g5 (by omega) (by omega) (by omega) (by omega) v5
      exact ⟨r, c', h', Ev.step e (Ev_bind hp (Ev.congr (fun k => if_pos ho2) hr)), h2, h3⟩
    · obtain ⟨r, c', h', hr, h2, h3⟩ := ih (i + 1) l i5 g5 (by omega) (by omega) (by omega) (by omega) v5
      exact ⟨r, c', h', Ev.step e (Ev_bind hp (Ev.congr (fun k => if_neg ho2) hr)), h2, h3⟩
theorem lots_ok (b : List Int) (i h : Int) (hv : V b i) : ∃ r i' h', Ev (fun k => spec_l5DrawLots.f k b i h) (r, i', h') ∧ r.length ≤ 1001 ∧ V b i' := by
  unfold spec_l5DrawLots.f
  obtain ⟨x, i1, g1, e1, x0, x1, v1⟩ := below_any b i h 12 hv
  obtain ⟨y, i2, g2, e2, v2⟩ := once_ok b i1 g1 20 v1 (by decide)
  cases y with
  | true =>
    obtain ⟨r, c', h', hr, h2, h3⟩ := lots_l b 120 (by decide) _ 0 [] i2 g2 rfl (by decide) (by decide) (.inr rfl) v2
    have hj : Ev (fun k => spec_l5DrawLots.j0 k [] 120 b i2 g2) (r, c', h') := Ev.step (fun k => by simp only [spec_l5DrawLots.j0]) hr
    exact ⟨r, c', h', Ev.congr (fun k => by rw [Option.bind_some, e1, Option.bind_some]; simp only [e2, Option.bind_some, if_true]) hj, h2, h3⟩
  | false =>
    obtain ⟨r, c', h', hr, h2, h3⟩ := lots_l b x (by have := x1 (by decide); omega) _ 0 [] i2 g2 rfl (by decide) (by decide) (.inr rfl) v2
    have hj : Ev (fun k => spec_l5DrawLots.j0 k [] x b i2 g2) (r, c', h') := Ev.step (fun k => by simp only [spec_l5DrawLots.j0]) hr
    exact ⟨r, c', h', Ev.congr (fun k => by rw [Option.bind_some, e1, Option.bind_some]; simp only [e2, Option.bind_some, Bool.false_eq_true, if_false]) hj, h2, h3⟩
theorem key_ok (l : List Int) (hl : l.length ≤ 140737488351232) : ∃ r x y, Ev (fun k => spec_l5DrawKey.f k l) (r, x, y) ∧ r.length ≤ 1001 := by
  unfold spec_l5DrawKey.f
  obtain ⟨h, hn⟩ := new_ok l hl
  have hv : V l 0 := ⟨by omega, by omega, hl⟩
  obtain ⟨r, i1, g1, hr, h2, v1⟩ := lots_ok l 0 h hv
  obtain ⟨x, i2, g2, e2, _, _, v2⟩ := below_any l i1 g1 4 v1
  obtain ⟨y, i3, g3, e3, _, _, v3⟩ := below_any l i2 g2 2 v2
  exact ⟨r, wrap64 (1 + x), wrap64 (1 + y), Ev_bind hn (Ev_bind hr (Ev_all_k fun k => by simp only [e2, e3, Option.bind_some])), h2⟩
theorem qty_r (l : List SL) (a b : Int) (hl : l.length ≤ 1048576) : Ev (fun k => spec_LotsQty.f k l a b) (impl_LotsOk.sum3 (lotsL l a b) 0) := by
  unfold spec_LotsQty.f
  have := lots_len l a b
  refine Ev_bind (lotsOf_s l a b hl) ?_
  first
  | exact qty_s _ (by omega)
  | exact Ev_bind (qty_s _ (by omega)) (Ev_all_k fun k => rfl)
theorem cost_r (l : List SL) (a b : Int) (hl : l.length ≤ 1048576) : Ev (fun k => spec_LotsCost.f k l a b) (impl_LotsOk.sum4 (lotsL l a b) 0) := by
  unfold spec_LotsCost.f
  have := lots_len l a b
  refine Ev_bind (lotsOf_s l a b hl) ?_
  first
  | exact cost_s _ (by omega)
  | exact Ev_bind (cost_s _ (by omega)) (Ev_all_k fun k => rfl)
theorem same_lots (l : List SL) (hl : l.length ≤ 9223372036854775807) : Ev (fun k => laws_sameLots.f k l l) true := by
  unfold laws_sameLots.f
  refine Ev.congr (fun k => if_pos rfl) ?_
  refine Ev_goes (fun k (_ : Unit) i => laws_sameLots.l0 k l l i) l.length (fun _ _ => true) (fun _ _ => True)
    (fun _ _ => Ev_one fun k => by
      simp only [laws_sameLots.l0]
      rw [if_neg (by omega)])
    (fun i _ hi _ => .inr ⟨(), trivial, rfl, fun k => by
      show laws_sameLots.l0 (k + 1) l l (i : Int) = _
      simp only [laws_sameLots.l0]
      rw [if_pos (by omega), if_pos (by omega), if_pos (by omega), w_succ hi (by omega)]
      simp⟩) l.length 0 () (by omega) (by omega) trivial
end Go.Proofs.Ytomanpmffjkkgaa.D5
namespace Go.Proofs.Ytomanpmffjkkgaa.Pure
open Go Go.RowKit Go.Proofs.Ytomanpmffjkkgaa.P Go.Proofs.YtomanpmffjkkgaaW.PrintWords Go.Proofs.YtomanpmffjkkgaaW.PrintLast Go.Proofs.Ytomanpmffjkkgaa.EV Go.Proofs.Ytomanpmffjkkgaa.D1 Go.Proofs.Ytomanpmffjkkgaa.I1 Go.Proofs.Ytomanpmffjkkgaa.N1 Go.Proofs.Ytomanpmffjkkgaa.E1 Go.Proofs.Ytomanpmffjkkgaa.E2 Go.Proofs.Ytomanpmffjkkgaa.E3 Go.Proofs.Ytomanpmffjkkgaa.E4 Go.Proofs.Ytomanpmffjkkgaa.E5 Go.Proofs.Ytomanpmffjkkgaa.E6 Go.Proofs.Ytomanpmffjkkgaa.E7 Go.Proofs.Ytomanpmffjkkgaa.E8 Go.Proofs.Ytomanpmffjkkgaa.E9 Go.Proofs.Ytomanpmffjkkgaa.D5
theorem drawScale_ok (l : List Int) (hl : l.length ≤ 140737488351232) : ∃ r a b q, Ev (fun k => spec_DrawLotsScale.f k l) (r, a, b, q) ∧ r.length ≤ 1001 := by
  unfold spec_DrawLotsScale.f
  obtain ⟨r, a, b, hk, h2⟩ := key_ok l hl
  obtain ⟨h, hn⟩ := new_ok l hl
  have hv : V l 0 := ⟨by omega, by omega, hl⟩
  obtain ⟨q0, hq0⟩ : ∃ q0, q0 = impl_LotsOk.sum3 (lotsL r a b) 0 := ⟨_, rfl⟩
  have hq := qty_r r a b (by omega)
  rw [← hq0] at hq
  obtain ⟨x, i1, g1, e1, _, v1⟩ := pick_ok l 0 h [0, 1, wrap64 (Int.tdiv q0 2), q0, wrap64 (2 * q0), wrap64 (Int.tdiv q0 3), wrap64 (Int.tdiv (wrap64 (3 * q0)) 2), (-1), 1000000000000000, 1000000000000001] hv (Nat.succ_pos _) (by show 10 ≤ 4294967296; decide)
  exact ⟨r, a, b, x, Ev_bind hk (Ev_bind hn (Ev_bind hq (Ev_all_k fun k => by rw [e1]; rfl))), h2⟩
theorem FnScaled : laws_FnScaled.Pure := by
  intro l0 _ hl1 _
  refine Ev.rounds ?_
  unfold laws_FnScaled.f
  have hl : l0.length ≤ 140737488351232 := by omega
  refine Ev.congr (fun k => by unfold laws_big.f; rw [Option.bind_some]) ?_
  by_cases hb : (l0.length : Int) > 1048576
  · exact Ev_all_k fun k => by rw [decide_eq_true hb, if_pos rfl]
  refine Ev.congr (fun k => by rw [decide_eq_false hb, if_neg (by decide)]) ?_
  obtain ⟨l, a, b, q, hd, hl2⟩ := drawScale_ok l0 hl
  obtain ⟨o, ho⟩ : ∃ o, o = scaleR l a b q := ⟨_, rfl⟩
  have hI : Ev (fun k => impl_LotsScale.f k l a b q) o := by rw [ho]; exact scale_i l a b q (by omega)
  have hS : Ev (fun k => spec_LotsScale.f k l a b q) o := by rw [ho]; exact scale_s l a b q (by omega)
  refine Ev_bind hd (Ev_bind hI (Ev_bind hS ?_))
  refine Ev.congr (fun k => if_pos rfl) ?_
  unfold scaleR at ho
  by_cases h : impl_LotsOk.ok l = true ∧ (0 ≤ q ∧ q ≤ 1000000000000000)
  · rw [if_pos h] at ho
    have hR := (ok_iff l).1 h.1
    have same : o = (l, 2) ∨ o = (l, 3) → Ev (fun k => (laws_sameLots.f k o.1 l).bind fun t => some t) true := fun g => by
      have e : o.1 = l := by rcases g with g | g <;> rw [g]
      rw [e]
      exact Ev_bind (same_lots l (by omega)) (Ev.now _)
    -- what the law asks of lots that are done
    have done : ∀ N : List SL, o = (N, 0) → E1.Right N → tot (ofL a b N) = q → (ofL a b N).length ≤ (ofL a b l).length → (ofL a b N ≠ [] → all4 (ofL a b N) = all4 (ofL a b l)) →
        Ev (fun k => (impl_LotsOf.f o.1 a b).bind fun t1149 => ((impl_LotsQty.f k o.1 a b).bind fun t1152 => (if t1152 = q then ((impl_LotsOk.f o.1).bind fun t1153 => (if t1153 = true then ((spec_LotsOf.f k l a b).bind fun t1154 => (if (t1149.length : Int) ≤ (t1154.length : Int) then (if (t1149.length : Int) = 0 then (some true) else ((impl_LotsCost.f k o.1 a b).bind fun t1157 => ((spec_LotsCost.f k l a b).bind fun t1158 => (some (t1157 == t1158))))) else (none))) else (none))) else (none)))) true := by
      intro N hoN hN ht hle hc
      rw [hoN]
      have q1 := lots_of_right hN a b
      have q2 := lots_of_right hR a b
      have hN1 := hN.1
      refine Ev_bind (Ev_all_k fun k => lotsOf_i N a b (by omega)) (Ev_bind (qty_ri N a b (by omega)) ?_)
      rw [q1.2.1, q1.1]
      have eok : impl_LotsOk.f N = some true := by
        unfold impl_LotsOk.f
        rw [if_pos (by omega), (ok_iff _).2 hN]
      refine Ev.congr (fun k => (if_pos ht).trans (by rw [eok, Option.bind_some, if_pos rfl])) (Ev_bind (lotsOf_s l a b (by omega)) ?_)
      rw [q2.1]
      refine Ev.congr (fun k => if_pos (by omega)) ?_
      by_cases e : ofL a b N = []
      · exact Ev_all_k fun k => by rw [e]; rfl
      · have hp : 0 < (ofL a b N).length := List.length_pos_iff.2 e
        refine Ev.congr (fun k => if_neg (by omega)) (Ev_bind (cost_ri N a b (by omega)) (Ev_bind (cost_r l a b (by omega)) (Ev_all_k fun k => ?_)))
        rw [q1.2.2, q2.2.2, hc e]
        simp
    by_cases h0 : (ofL a b l).length = 0
    · rw [if_pos h0] at ho
      by_cases g : q = 0
      · rw [if_pos g] at ho
        have e0 : ofL a b l = [] := List.length_eq_zero_iff.1 h0
        have hd0 := done l ho hR (by rw [e0, g]; rfl) (Nat.le_refl _) (fun _ => rfl)
        refine Ev.congr (fun k => ?_) hd0
        rw [ho, if_neg (by show ¬ ((0 : Int) = 1); decide), if_pos rfl]
      · rw [if_neg g] at ho
        refine Ev.congr (fun k => ?_) (same (.inl ho))
        rw [ho, if_neg (by show ¬ ((2 : Int) = 1); decide), if_neg (by show ¬ ((2 : Int) = 0); decide)]
    · rw [if_neg h0] at ho
      by_cases h4 : 40 < (ofL a b l).length
      · rw [if_pos h4] at ho
        refine Ev.congr (fun k => ?_) (same (.inr ho))
        rw [ho, if_neg (by show ¬ ((3 : Int) = 1); decide), if_neg (by show ¬ ((3 : Int) = 0); decide)]
      · rw [if_neg h4] at ho
        obtain ⟨r1, r2, r3⟩ := scale_right hR a b q h0 (by omega) h.2
        have hk := scl_key (own_of hR a b) (W6.parts q (wts (ofL a b l)))
        have e1 := of_own l hk
        have hd0 := done _ ho r1 (by rw [e1]; exact r2) (by rw [e1]; exact scl_len _ _) (by rw [e1]; exact r3)
        refine Ev.congr (fun k => ?_) hd0
        rw [ho, if_neg (by show ¬ ((0 : Int) = 1); decide), if_pos rfl]
  · rw [if_neg h] at ho
    exact Ev_all_k fun k => by
      rw [ho, if_pos rfl]
      rfl
end Go.Proofs.Ytomanpmffjkkgaa.Pure
namespace Go.Proofs.YtomanpmffjkkgaaW.PrintWords
open Go.ChangeShapes Go.WideShapes
theorem sized_ints {H : Type} {enc : TypeId × Value → H} {P : Program} {W : World} {base : Nat} {spare : Nat → Bool} {held : Bool} {t e : TypeId} {k : IntKind} {a : Option Addr} {len cap : Nat} {d : DataW H} {ps : List MemPlace} {ts : List TypeId} {ds : List (DataW H)} {j : Nat}
    (hsz : (DataW.weightsEach P ts ds).all (· ≤ reachBytes) = true) (ht : ts[j]? = some t) (hd : ds[j]? = some d) (hu : P.underlying t = some (.slice e)) (he : P.underlying e = some (.int k)) (hc : P.cellsOf e = 1) {B : Nat} (hB : P.bytesOf e = B)
    (h : DataW.Trod enc P W base spare held t (.slice a len cap) d ps) : len * B ≤ 140737488351232 := by
  obtain ⟨fuel, hf⟩ := h
  rcases open_ints hu he hc hf with ⟨hcs, _⟩ | ⟨x, l, c, zs, hcs, _, hl, _, hz, hx, _, _⟩
  · simp [Value.cells] at hcs
    obtain ⟨rfl, rfl, rfl⟩ := hcs
    simp
  · simp [Value.cells] at hcs
    obtain ⟨rfl, rfl, rfl⟩ := hcs
    obtain ⟨hx, _⟩ := Prod.mk.inj hx
    subst hx
    have z := sized_slice hsz ht hd hu
    rw [hB] at z
    have hl2 : len ≤ zs.length := by
      rw [hz]
      split
      · exact hl
      · exact Nat.le_refl _
    have h1 : (lits (H := H) k (zs.take len)).length + (lits (H := H) k (zs.drop len)).length = zs.length := by
      simp [lits]
      omega
    rw [h1] at z
    exact Nat.le_trans (Nat.mul_le_mul_right _ hl2) z
end Go.Proofs.YtomanpmffjkkgaaW.PrintWords
namespace Go.Proofs.Ytomanpmffjkkgaa.fnScaled
open Go.ChangeShapes Go.WideShapes Go.ChangeAt Go.RowKit
open Go.ChangeMaps (open_string shut_string)
set_option linter.unusedVariables false
theorem own : ownKnob Try.prog.godebug = none := by kernel_rfl
theorem laidOut : laidOutB Try.prog = true := by kernel_rfl
def IsRow (k : IntKind) (w : World) (a : Option Addr) (len cap : Nat) (zs : List Int) : Prop :=
  (a = none ∧ len = 0 ∧ cap = 0 ∧ zs = []) ∨
  ∃ x, a = some x ∧ len ≤ cap ∧ cap ≤ maxLen ∧ zs.length = cap ∧ (∀ i, i < zs.length → w.cell? (x.add i) = some (.int k (zs.getD i 0))) ∧ ∀ n ∈ zs, (Lit.int k n).wf = true
set_option maxRecDepth 100000 in
theorem lifted (os : Os) (started : os.Started) (H : Type) (enc : TypeId × Value → H) :
    ReturnsInHanded {} Try.checked os 13 .any (Rows.fnScaledSpec.pre6 enc Try.prog Try.f13 Rows.fnScaledRow.domain false) (Rows.fnScaledSpec.post enc Try.prog Try.f13 false true false false) := by
  refine returnsInHanded_of_change_sized (C := Try.checked) own started (by kernel_rfl) Try.func13
    (ChangeSpec.witness6 (enc := enc) (C := Try.checked) false ⟨#[], #[.slice none 0 0], []⟩ 8 (by kernel_rfl) (by kernel_rfl) (by kernel_rfl) (by kernel_rfl)) ?_
  intro W base args ds gs before hval0 hW hcnd hsz0 _
  have hsz : (DataW.weightsEach Try.prog (Try.f13.params.toList ++ Rows.fnScaledSpec.plain.varTypes Try.prog) (ds ++ gs)).all (· ≤ reachBytes) = true := hsz0
  have hval : ∀ (j : Nat) t v, Try.f13.params[j]? = some t → args[j]? = some v → Value.okWide Try.prog W .any base t v := hval0
  have hW' := hW
  obtain ⟨p, q, hA0, hV, rfl, hfz, hnd⟩ := hW
  have hA : DataW.TrodAll enc Try.prog W 0 (fun _ => true) true Try.f13.params.toList args.toList ds p := hA0
  rw [Try.params13] at hA hval hsz
  obtain ⟨v0, vs0, d0, ds0, p0, q0, hargs, rfl, rfl, h0, r0⟩ := trodAll_cons hA
  obtain ⟨rfl, rfl, rfl⟩ := trodAll_nil r0
  obtain rfl : args = #[v0] := by cases args; simp_all
  obtain ⟨rfl, rfl⟩ := trodVars_none hV
  obtain ⟨a0, len0, cap0, rfl⟩ := okWide_slice Try.underlying40 (hval 0 40 v0 rfl rfl)
  have k0 := h0
  have lt0 : ∀ x ∈ p0, x.block < W.heap.size := by obtain ⟨m, hm⟩ := k0; exact DataW.trod_lt m _ _ _ hm
  obtain ⟨z0, w0⟩ : ∃ zs, IsRow .u8 W a0 len0 cap0 zs := by
    obtain ⟨fuel, hf⟩ := h0
    rcases open_ints Try.underlying40 Try.underlying5 (by kernel_rfl) hf with ⟨hcs, _⟩ | ⟨x, l, c, zs, hcs, _, hl, hm, hz, _, hcell, hwz⟩
    · simp [Value.cells] at hcs
      obtain ⟨rfl, rfl, rfl⟩ := hcs
      exact ⟨[], .inl ⟨rfl, rfl, rfl, rfl⟩⟩
    · simp [Value.cells] at hcs
      obtain ⟨rfl, rfl, rfl⟩ := hcs
      exact ⟨zs, .inr ⟨_, rfl, hl, hm, by simpa using hz, hcell, hwz⟩⟩
  have y0 : len0 * 1 ≤ 140737488351232 := Go.Proofs.YtomanpmffjkkgaaW.PrintWords.sized_ints hsz (j := 0) (t := 40) rfl rfl Try.underlying40 Try.underlying5 (by kernel_rfl) (by kernel_rfl) h0
  clear hA0 hval0 hsz0 hsz
  refine (P.laws_FnScaled.walk Pure.FnScaled a0 len0 cap0 z0 W w0 y0).mono fun e W' ⟨he, bel⟩ => ?_
  subst he
  exact ⟨_, rfl, _, _, _, [], _, [], hW', trodAll_mk1 (shut_bool Try.underlying4 _), (trodAll_cons_mk (Below.trod laidOut (by kernel_rfl) (of_decide_eq_true (by kernel_rfl)) k0 bel lt0) trodAll_mk0), rfl, bel.frame _, fun h => by cases h⟩
theorem over : Rows.fnScaledRow.holds Try.pinned (OpenSpec.ofChange Rows.fnScaledSpec) :=
  OpenClaim.holds_of_wide 13 Try.f13 rfl rfl rfl rfl rfl rfl rfl ⟨rfl, rfl, rfl, rfl, rfl⟩ rfl rfl rfl rfl rfl (by kernel_rfl) Try.func13 (by kernel_rfl)
    (of_decide_eq_true (by kernel_rfl)) (by unfold Func.isWrapper; first | (rw [if_pos (by decide +kernel)]; kernel_rfl) | (rw [if_neg (by decide +kernel)]; exact ⟨rfl, rfl⟩))
    (fun os started H enc _ => lifted os started H enc)
theorem proved : Rows.FnScaledSaid := over
#print axioms proved
end Go.Proofs.Ytomanpmffjkkgaa.fnScaled
namespace Go.Proofs.Ytomanpmffjkkgaa
theorem fnScaled_holds : Rows.FnScaledSaid := fnScaled.proved
end Go.Proofs.Ytomanpmffjkkgaa
