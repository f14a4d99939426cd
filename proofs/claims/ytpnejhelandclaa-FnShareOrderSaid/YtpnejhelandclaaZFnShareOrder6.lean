/- FnShareOrder answers true at every code; no condition but the reach of its bytes. -/
import Derived.Test.YtpnejhelandclaaZFnShareOrder5
import Derived.SizedLaws
import Derived.ChangeSlices
import Derived.Test.YtpnejhelandclaaRows
import Derived.WalkKit
import Derived.ProofKit
import Derived.OpenShut
import Derived.ShutString
import Derived.ChangeOld
import Derived.Below
namespace Go.Proofs.Ytpnejhelandclaa.EV
end Go.Proofs.Ytpnejhelandclaa.EV
namespace Go.Proofs.Ytpnejhelandclaa.S4
end Go.Proofs.Ytpnejhelandclaa.S4
namespace Go.Proofs.Ytpnejhelandclaa.P
end Go.Proofs.Ytpnejhelandclaa.P
namespace Go.Proofs.Ytpnejhelandclaa.I1
end Go.Proofs.Ytpnejhelandclaa.I1
namespace Go.Proofs.Ytpnejhelandclaa.TI
end Go.Proofs.Ytpnejhelandclaa.TI
namespace Go.Proofs.Ytpnejhelandclaa.W1
end Go.Proofs.Ytpnejhelandclaa.W1
namespace Go.Proofs.Ytpnejhelandclaa.W2
end Go.Proofs.Ytpnejhelandclaa.W2
namespace Go.Proofs.Ytpnejhelandclaa.S7
end Go.Proofs.Ytpnejhelandclaa.S7
namespace Go.Proofs.Ytpnejhelandclaa.A2
end Go.Proofs.Ytpnejhelandclaa.A2
namespace Go.Proofs.Ytpnejhelandclaa.W3
end Go.Proofs.Ytpnejhelandclaa.W3
namespace Go.Proofs.Ytpnejhelandclaa.L1
end Go.Proofs.Ytpnejhelandclaa.L1
namespace Go.Proofs.Ytpnejhelandclaa.D1
end Go.Proofs.Ytpnejhelandclaa.D1
namespace Go.Proofs.Ytpnejhelandclaa.W4
end Go.Proofs.Ytpnejhelandclaa.W4
namespace Go.Proofs.Ytpnejhelandclaa.W5
end Go.Proofs.Ytpnejhelandclaa.W5
namespace Go.Proofs.Ytpnejhelandclaa.W6
end Go.Proofs.Ytpnejhelandclaa.W6
namespace Go.Proofs.Ytpnejhelandclaa.S7
open Go Go.RowKit Go.Proofs.YtpnejhelandclaaW.PrintWords Go.Proofs.Ytpnejhelandclaa.EV Go.Proofs.Ytpnejhelandclaa.S4
def idx (n : Nat) : List Int := (List.range n).map fun i : Nat => (i : Int)
theorem idx_succ (n : Nat) : idx (n + 1) = idx n ++ [(n : Int)] := by unfold idx; rw [List.range_succ, List.map_append]; rfl
theorem idx_length (n : Nat) : (idx n).length = n := by unfold idx; rw [List.length_map, List.length_range]
theorem mem_idx {n : Nat} {x : Int} : x ∈ idx n ↔ 0 ≤ x ∧ x < n := by
  unfold idx
  rw [List.mem_map]
  constructor
  · rintro ⟨a, ha, rfl⟩
    rw [List.mem_range] at ha
    omega
  · intro h
    exact ⟨x.toNat, by rw [List.mem_range]; omega, by omega⟩
theorem idx_asc (n : Nat) : (idx n).Pairwise (fun x y => x < y) := by
  unfold idx
  rw [List.pairwise_map]
  exact List.Pairwise.imp (fun h => by omega) List.pairwise_lt_range
section
variable (f : Int → Int)
def lt (a b : Int) : Prop := f b < f a ∨ (f a = f b ∧ a < b)
instance : DecidableRel (lt f) := fun a b => by unfold lt; exact inferInstance
def cb (a b : Int) : Bool := decide (f b < f a)
theorem lt_trans {x y z : Int} (h : lt f x y) (h' : lt f y z) : lt f x z := by unfold lt at *; omega
theorem lt_total {x y : Int} (h : x < y) : lt f y x ∨ lt f x y := by unfold lt; omega
theorem lt_not {x y : Int} (h : lt f x y) (h' : lt f y x) : False := by unfold lt at *; omega
def ord (n : Nat) : List Int := stb (cb f) (idx n) n
theorem ord_ok {n : Nat} (hn : n ≤ 40) : (ord f n).Perm (idx n) ∧ (ord f n).Pairwise (lt f) := by
  have h := stb_ok (lt f) (cb f) (fun a b => lt_trans f a b) (idx n) (by rw [idx_length]; exact hn)
    ((idx_asc n).imp fun h => lt_total f h)
    ((idx_asc n).imp fun {a b} h => by
      unfold cb lt
      rw [decide_eq_true_iff]
      omega)
  rw [idx_length] at h
  exact h
theorem ord_unique {n : Nat} (hn : n ≤ 40) {l : List Int} (hp : l.Perm (idx n)) (hl : l.Pairwise (lt f)) : l = ord f n := by
  have h := ord_ok f hn
  have key : ∀ (a b : List Int), a.Perm b → a.Pairwise (lt f) → b.Pairwise (lt f) → a = b := by
    intro a
    induction a with
    | nil => intro b hp _ _; exact (List.nil_perm.1 hp).symm
    | cons x a ih =>
      intro b hp ha hb
      cases b with
      | nil => exact absurd hp.length_eq (by simp)
      | cons y b =>
        have ha' := List.pairwise_cons.1 ha
        have hb' := List.pairwise_cons.1 hb
        have e : x = y := by
          apply Classical.byContradiction
          intro hne
          have hx : x ∈ b := by
            rcases List.mem_cons.1 (hp.mem_iff.1 (List.mem_cons_self ..)) with h | h
            · exact absurd h hne
            · exact h
          have hy : y ∈ a := by
            rcases List.mem_cons.1 (hp.mem_iff.2 (List.mem_cons_self ..)) with h | h
            · exact absurd h.symm hne
            · exact h
          exact lt_not f (ha'.1 y hy) (hb'.1 x hx)
        subst e
        rw [ih b ((List.perm_cons x).1 hp) ha'.2 hb'.2]
  exact key l (ord f n) (hp.trans h.1.symm) hl h.2
def pos (r : Int) (out : List Int) : Nat → Nat
  | 0 => 0
  | k + 1 => if f (out.getD k 0) < r then pos r out k else k + 1
theorem pos_ok (r : Int) (out : List Int) : ∀ k, pos f r out k ≤ k ∧ (∀ j, pos f r out k ≤ j → j < k → f (out.getD j 0) < r) ∧ (0 < pos f r out k → ¬ f (out.getD (pos f r out k - 1) 0) < r)
  | 0 => ⟨Nat.le_refl _, fun j h1 h2 => by omega, fun h => by simp [pos] at h⟩
  | k + 1 => by
    unfold pos
    by_cases h : f (out.getD k 0) < r
    · rw [if_pos h]
      obtain ⟨h1, h2, h3⟩ := pos_ok r out k
      refine ⟨by omega, fun j g1 g2 => ?_, h3⟩
      by_cases e : j = k
      · rw [e]; exact h
      · exact h2 j g1 (by omega)
    · rw [if_neg h]
      exact ⟨Nat.le_refl _, fun j g1 g2 => by omega, fun _ => h⟩
def ins (i : Int) (out : List Int) : List Int := out.take (pos f (f i) out out.length) ++ [i] ++ out.drop (pos f (f i) out out.length)
theorem ins_perm (i : Int) (out : List Int) : (ins f i out).Perm (out ++ [i]) := by
  unfold ins
  rw [List.append_assoc, List.singleton_append]
  refine List.perm_middle.trans ?_
  rw [List.take_append_drop]
  exact (List.perm_append_singleton i out).symm
theorem ins_pw (i : Int) (out : List Int) (h : out.Pairwise (lt f)) (hi : ∀ x ∈ out, x < i) : (ins f i out).Pairwise (lt f) := by
  obtain ⟨p1, p2, p3⟩ := pos_ok f (f i) out out.length
  unfold ins
  generalize pos f (f i) out out.length = q at *
  have hs := List.pairwise_append.1 (show (out.take q ++ out.drop q).Pairwise (lt f) by rw [List.take_append_drop]; exact h)
  have hB : ∀ y ∈ out.drop q, lt f i y := by
    intro y hy
    obtain ⟨j, hj, rfl⟩ := List.getElem_of_mem hy
    rw [List.length_drop] at hj
    have := p2 (q + j) (by omega) (by omega)
    rw [List.getD_eq_getElem?_getD, List.getElem?_eq_getElem (by omega : q + j < out.length)] at this
    left
    rw [List.getElem_drop]
    exact this
  have hA : ∀ x ∈ out.take q, lt f x i := by
    intro x hx
    obtain ⟨j, hj, rfl⟩ := List.getElem_of_mem hx
    rw [List.length_take] at hj
    have hq : 0 < q := by omega
    have hz := p3 hq
    rw [List.getD_eq_getElem?_getD, List.getElem?_eq_getElem (by omega : q - 1 < out.length)] at hz
    have hz' : ¬ f out[q - 1] < f i := hz
    have hm := hi out[j] (List.getElem_mem _)
    rw [List.getElem_take]
    have hr : f out[q - 1] ≤ f out[j] := by
      by_cases e : j = q - 1
      · subst e; exact Int.le_refl _
      · have := (List.pairwise_iff_getElem.1 h) j (q - 1) (by omega) (by omega) (by omega)
        unfold lt at this
        omega
    unfold lt
    omega
  rw [List.append_assoc, List.singleton_append]
  refine List.pairwise_append.2 ⟨hs.1, List.pairwise_cons.2 ⟨hB, hs.2.1⟩, fun x hx y hy => ?_⟩
  rcases List.mem_cons.1 hy with rfl | hy
  · exact hA x hx
  · exact hs.2.2 x hx y hy
def specO : Nat → List Int
  | 0 => []
  | i + 1 => ins f i (specO i)
theorem specO_ok : ∀ i, (specO f i).Perm (idx i) ∧ (specO f i).Pairwise (lt f)
  | 0 => ⟨List.Perm.refl _, List.Pairwise.nil⟩
  | i + 1 => by
    obtain ⟨h1, h2⟩ := specO_ok i
    refine ⟨?_, ins_pw f i _ h2 fun x hx => (mem_idx.1 (h1.mem_iff.1 hx)).2⟩
    rw [idx_succ]
    exact (ins_perm f i _).trans (h1.append_right _)
theorem specO_ord {n : Nat} (hn : n ≤ 40) : specO f n = ord f n := ord_unique f hn (specO_ok f n).1 (specO_ok f n).2
theorem ord_length {n : Nat} (hn : n ≤ 40) : (ord f n).length = n := by rw [(ord_ok f hn).1.length_eq, idx_length]
theorem specO_length (n : Nat) : (specO f n).length = n := by rw [(specO_ok f n).1.length_eq, idx_length]
theorem specO_mem {n : Nat} {x : Int} : x ∈ specO f n ↔ 0 ≤ x ∧ x < n := by rw [(specO_ok f n).1.mem_iff, mem_idx]
theorem ord_mem {n : Nat} (hn : n ≤ 40) {x : Int} : x ∈ ord f n ↔ 0 ≤ x ∧ x < n := by rw [(ord_ok f hn).1.mem_iff, mem_idx]
theorem ord_nodup {n : Nat} (hn : n ≤ 40) : (ord f n).Nodup := (ord_ok f hn).2.imp fun h e => by subst e; exact lt_not f h h
end
end Go.Proofs.Ytpnejhelandclaa.S7
namespace Go.Proofs.Ytpnejhelandclaa.W3
open Go Go.RowKit Go.Proofs.Ytpnejhelandclaa Go.Proofs.Ytpnejhelandclaa.P Go.Proofs.YtpnejhelandclaaW.PrintWords Go.Proofs.YtpnejhelandclaaW.PrintLast Go.Proofs.Ytpnejhelandclaa.EV Go.Proofs.Ytpnejhelandclaa.I1 Go.Proofs.Ytpnejhelandclaa.TI Go.Proofs.Ytpnejhelandclaa.W1 Go.Proofs.Ytpnejhelandclaa.W2 Go.Proofs.Ytpnejhelandclaa.S7
noncomputable def rm (t : Int) (l : List Int) (j : Int) : Int := (quota t l j).2.1
noncomputable def overP (t : Int) (l : List Int) (i : Nat) : List Int := (List.range i).map fun j : Nat => rm t l (j : Int)
section
variable (t : Int) (l : List Int)
theorem overP_succ (i : Nat) : overP t l (i + 1) = overP t l i ++ [rm t l (i : Int)] := by unfold overP; rw [List.range_succ, List.map_append]; rfl
theorem overP_length (i : Nat) : (overP t l i).length = i := by unfold overP; rw [List.length_map, List.length_range]
theorem rd_over (i : Nat) (x : Int) (h0 : 0 ≤ x) (h1 : x < i) : rd (overP t l i) x = rm t l x := by
  unfold rd overP
  rw [List.getD_eq_getElem?_getD, List.getElem?_map, List.getElem?_range (by omega)]
  show rm t l ((x.toNat : Nat) : Int) = _
  rw [Int.toNat_of_nonneg h0]
theorem cmp_ok (n : Nat) : S5.CmpOk (impl_ShareOrder.cmp (overP t l n)) (cb (rm t l)) (fun x => 0 ≤ x ∧ x < n) := by
  intro x y hx hy
  unfold impl_ShareOrder.cmp cb
  rw [overP_length, rd_over t l n x hx.1 hx.2, rd_over t l n y hy.1 hy.2, if_pos ⟨hx.1, hx.2, hy.1, hy.2⟩]
  refine ⟨_, rfl, ?_⟩
  rw [decide_eq_true_iff]
  by_cases h : rm t l y < rm t l x
  · rw [if_pos h]
    omega
  · rw [if_neg h]
    by_cases h2 : rm t l x < rm t l y
    · rw [if_pos h2]
      omega
    · rw [if_neg h2]
      omega
theorem order_i (hl : l.length ≤ 40) : ∀ (d i : Nat), l.length - i = d → i ≤ l.length → Ev (fun k => impl_ShareOrder.l0 k t l (idx i) (overP t l i) (l.length : Int) (i : Int)) (ord (rm t l) l.length) := by
  intro d
  induction d with
  | zero =>
    intro i hd hi
    obtain rfl : i = l.length := by omega
    refine Ev.step (f := fun k => SB.slices_stableCmpFunc_int.f k (idx l.length) ((l.length : Nat) : Int) (impl_ShareOrder.cmp (overP t l l.length))) (fun k => ?_) (S6.stb_ev (cmp_ok t l l.length) hl (idx l.length) ⟨idx_length _, fun e he => mem_idx.1 he⟩)
    simp only [impl_ShareOrder.l0]
    rw [if_neg (by omega), idx_length]
  | succ d ih =>
    intro i hd hi
    refine Ev.step (f := fun k => (impl_ShareQuota.f k t l (i : Int)).bind fun bt209 => (if (idx i).length < 17592186044416 then (if (overP t l i).length < 17592186044416 then (impl_ShareOrder.l0 k t l ((idx i) ++ [(i : Int)]) ((overP t l i) ++ [bt209.2.1]) (l.length : Int) (wrap64 ((i : Int) + 1))) else (none)) else (none))) (fun k => ?_) (Ev_bind (quota_i t l i) (Ev.congr (fun k => ?_) (ih (i + 1) (by omega) (by omega))))
    · simp only [impl_ShareOrder.l0]
      rw [if_pos (by omega)]
    · rw [if_pos (by rw [idx_length]; omega), if_pos (by rw [overP_length]; omega), idx_succ, overP_succ, w_succ (by omega : i < l.length) (by omega)]
      rfl
noncomputable def ordR : List Int := if okW l = true ∧ InT t then ord (rm t l) l.length else []
theorem shareOrder_i : Ev (fun k => impl_ShareOrder.f k t l) (ordR t l) := by
  unfold impl_ShareOrder.f ordR
  refine Ev_bind (shareable_i t l) ?_
  by_cases h : okW l = true
  · by_cases ht : InT t
    · rw [if_pos ⟨h, ht⟩]
      have ho := (okW_iff l).1 h
      have hl := ho.1
      refine Ev.congr (fun k => ?_) (order_i t l (by omega) l.length 0 (by omega) (by omega))
      rw [h, decide_eq_true ht, if_pos (by decide)]
      rfl
    · rw [if_neg (fun g => ht g.2)]
      exact Ev_all_k fun k => by rw [h, decide_eq_false ht, if_neg (by decide)]
  · rw [if_neg (fun g => h g.1)]
    exact Ev_all_k fun k => by rw [Bool.eq_false_iff.2 h, Bool.false_and, if_neg (by decide)]
theorem put_ev (R : List Int) (n i : Nat) (hi : i < n) (hn : n ≤ 40) (out left : List Int) (hout : out.length = i) (hleft : left.length = i + 1) (hmem : ∀ x ∈ out, 0 ≤ x ∧ x < i) (hrd : ∀ x : Int, 0 ≤ x → x < i → rd left x = rm t l x) (r : Int) :
    ∀ q : Nat, q ≤ i → Ev (fun k => spec_ShareOrder.l0 k t l (out.take (pos (rm t l) r out q) ++ [(i : Int)] ++ out.drop (pos (rm t l) r out q)) left ((i + 1 : Nat) : Int)) R → Ev (fun k => spec_ShareOrder.l1 k t l out left (i : Int) r (q : Int)) R := by
  have leave : ∀ (q : Nat), q ≤ i → ∀ k, ((some (([] : List Int) : List Int)).bind fun y190 => (if 0 ≤ (q : Int) then (if (q : Int) ≤ (out.length : Int) then ((some (out.take ((q : Int) : Int).toNat : List Int)).bind fun y193 => (if y190.length + y193.length < 17592186044416 then ((some (y190 ++ y193 : List Int)).bind fun y197 => (if y197.length < 17592186044416 then ((some (y197 ++ [(i : Int)] : List Int)).bind fun y200 => ((some (out.drop ((q : Int) : Int).toNat : List Int)).bind fun y203 => (if y200.length + y203.length < 17592186044416 then (spec_ShareOrder.l0 k t l (y200 ++ y203) left (wrap64 ((i : Int) + 1))) else (none)))) else (none))) else (none))) else (none)) else (none))) = spec_ShareOrder.l0 k t l (out.take q ++ [(i : Int)] ++ out.drop q) left ((i + 1 : Nat) : Int) := by
    intro q hq k
    rw [Option.bind_some, if_pos (by omega), if_pos (by omega), Option.bind_some, if_pos (by rw [List.length_nil, List.length_take]; omega), Option.bind_some, if_pos (by rw [List.nil_append, List.length_take]; omega), Option.bind_some, Option.bind_some, if_pos (by rw [List.nil_append, List.length_append, List.length_take, List.length_singleton, List.length_drop]; omega), w_succ hi (by omega), List.nil_append, Int.toNat_natCast]
  intro q
  induction q with
  | zero =>
    intro hq hR
    refine Ev.step (fun k => ?_) hR
    simp only [spec_ShareOrder.l1]
    rw [if_neg (by omega)]
    exact leave 0 (by omega) k
  | succ q ih =>
    intro hq hR
    have hx : out.getD q 0 ∈ out := by
      rw [List.getD_eq_getElem?_getD, List.getElem?_eq_getElem (by omega : q < out.length)]
      exact List.getElem_mem _
    have hb := hmem _ hx
    have ep : wrap64 (((q + 1 : Nat) : Int) - 1) = (q : Int) := by unfold wrap64; omega
    rw [pos] at hR
    by_cases g : rm t l (out.getD q 0) < r
    · rw [if_pos g] at hR
      refine Ev.step (fun k => ?_) (ih (by omega) hR)
      simp only [spec_ShareOrder.l1]
      rw [if_pos (by omega), ep, if_pos (by omega), if_pos (by omega), rdi, if_pos hb.1, if_pos (by omega), hrd _ hb.1 hb.2, if_pos g]
    · rw [if_neg g] at hR
      refine Ev.step (fun k => ?_) hR
      simp only [spec_ShareOrder.l1]
      rw [if_pos (by omega), ep, if_pos (by omega), if_pos (by omega), rdi, if_pos hb.1, if_pos (by omega), hrd _ hb.1 hb.2, if_neg g]
      exact leave (q + 1) (by omega) k
theorem order_s (hl : l.length ≤ 40) : ∀ (d i : Nat), l.length - i = d → i ≤ l.length → Ev (fun k => spec_ShareOrder.l0 k t l (specO (rm t l) i) (overP t l i) (i : Int)) (specO (rm t l) l.length) := by
  intro d
  induction d with
  | zero =>
    intro i hd hi
    obtain rfl : i = l.length := by omega
    exact Ev_one fun k => by
      simp only [spec_ShareOrder.l0]
      rw [if_neg (by omega)]
  | succ d ih =>
    intro i hd hi
    refine Ev.step (f := fun k => (spec_ShareQuota.f k t l (i : Int)).bind fun bt182 => (if (overP t l i).length < 17592186044416 then (spec_ShareOrder.l1 k t l (specO (rm t l) i) ((overP t l i) ++ [bt182.2.1]) (i : Int) bt182.2.1 ((specO (rm t l) i).length : Int)) else (none))) (fun k => ?_) (Ev_bind (quota_s t l i) (Ev.congr (f := fun k => spec_ShareOrder.l1 k t l (specO (rm t l) i) (overP t l (i + 1)) (i : Int) (rm t l (i : Int)) ((i : Nat) : Int)) (fun k => ?_) (put_ev t l _ l.length i (by omega) hl _ _ (specO_length _ i) (overP_length t l (i + 1)) (fun x hx => (specO_mem _).1 hx) (fun x h0 h1 => rd_over t l (i + 1) x h0 (by omega)) _ i (Nat.le_refl _) ?_)))
    · simp only [spec_ShareOrder.l0]
      rw [if_pos (by omega)]
    · rw [if_pos (by rw [overP_length]; omega), specO_length, overP_succ]
      rfl
    · have e : specO (rm t l) (i + 1) = (specO (rm t l) i).take (pos (rm t l) (rm t l i) (specO (rm t l) i) i) ++ [(i : Int)] ++ (specO (rm t l) i).drop (pos (rm t l) (rm t l i) (specO (rm t l) i) i) := by
        show ins (rm t l) i (specO (rm t l) i) = _
        unfold ins
        rw [specO_length]
      rw [← e]
      exact ih (i + 1) (by omega) (by omega)
theorem shareOrder_s : Ev (fun k => spec_ShareOrder.f k t l) (ordR t l) := by
  unfold spec_ShareOrder.f ordR
  refine Ev.congr (f := fun k => (spec_WeightsOk.f k l).bind fun t177 => (if t177 = true then ((spec_l1Some.f t 0).bind fun t178 => (spec_ShareOrder.j0 k t l [] (!t178))) else (spec_ShareOrder.j0 k t l [] true))) (fun k => rfl) (Ev_bind (weightsOk_s l) ?_)
  have no : Ev (fun k => spec_ShareOrder.j0 k t l [] true) [] := Ev_one fun k => by
    simp only [spec_ShareOrder.j0]
    rw [if_pos trivial]
  by_cases h : okW l = true
  · have ho := (okW_iff l).1 h
    have hl := ho.1
    by_cases ht : InT t
    · rw [if_pos ⟨h, ht⟩, ← specO_ord (rm t l) (by omega)]
      refine Ev.congr (f := fun k => spec_ShareOrder.j0 k t l [] false) (fun k => ?_) (Ev.step (fun k => ?_) (order_s t l (by omega) l.length 0 (by omega) (by omega)))
      · rw [if_pos h, some_s1, Option.bind_some, decide_eq_true (show 0 ≤ t ∧ t ≤ 1000000000000000 from ht)]
        rfl
      · simp only [spec_ShareOrder.j0]
        rw [if_neg (by decide)]
        rfl
    · rw [if_neg (fun g => ht g.2)]
      refine Ev.congr (fun k => ?_) no
      rw [if_pos h, some_s1, Option.bind_some, decide_eq_false (show ¬ (0 ≤ t ∧ t ≤ 1000000000000000) from ht)]
      rfl
  · rw [if_neg (fun g => h g.1)]
    exact Ev.congr (fun k => by rw [if_neg h]) no
theorem ordR_length : (ordR t l).length ≤ 40 := by
  unfold ordR
  split
  · rename_i h
    have := ((okW_iff l).1 h.1).1
    rw [ord_length _ (by omega)]
    omega
  · decide
end
end Go.Proofs.Ytpnejhelandclaa.W3
namespace Go.Proofs.Ytpnejhelandclaa.W4
open Go Go.RowKit Go.Proofs.Ytpnejhelandclaa Go.Proofs.Ytpnejhelandclaa.P Go.Proofs.YtpnejhelandclaaW.PrintWords Go.Proofs.YtpnejhelandclaaW.PrintLast Go.Proofs.Ytpnejhelandclaa.EV Go.Proofs.Ytpnejhelandclaa.I1 Go.Proofs.Ytpnejhelandclaa.A2 Go.Proofs.Ytpnejhelandclaa.TI Go.Proofs.Ytpnejhelandclaa.W1 Go.Proofs.Ytpnejhelandclaa.W2 Go.Proofs.Ytpnejhelandclaa.W3 Go.Proofs.Ytpnejhelandclaa.S7
section
variable (t : Int) (l : List Int)
variable {t l}
theorem mul_le_left {t w W : Int} (ht : 0 ≤ t) (h : w ≤ W) (hW : 0 < W) : t * w / W ≤ t := by
  have : t * w ≤ t * W := Int.mul_le_mul_of_nonneg_left h ht
  exact Int.ediv_le_of_le_mul hW this
theorem le_sum : ∀ (l : List Int), (∀ x ∈ l, 0 ≤ x) → ∀ x ∈ l, x ≤ l.sum
  | [], _, x, h => by cases h
  | y :: l, h0, x, h => by
    rw [List.sum_cons]
    have hs : ∀ (l : List Int), (∀ x ∈ l, 0 ≤ x) → 0 ≤ l.sum := by
      intro l
      induction l with
      | nil => intro _; simp
      | cons z l ih =>
        intro h
        rw [List.sum_cons]
        have := h z (List.mem_cons_self ..)
        have := ih fun x hx => h x (List.mem_cons_of_mem _ hx)
        omega
    rcases List.mem_cons.1 h with rfl | h
    · have := hs l fun x hx => h0 x (List.mem_cons_of_mem _ hx)
      omega
    · have := le_sum l (fun x hx => h0 x (List.mem_cons_of_mem _ hx)) x h
      have := h0 y (List.mem_cons_self ..)
      omega
theorem part (ho : OkW l) (ht : InT t) (j : Nat) (hj : j < l.length) : quota t l (j : Int) = (t * l.getD j 0 / l.sum, t * l.getD j 0 % l.sum, true) := by
  rw [quota_yes ⟨ho, ht, by omega, by omega⟩, rdi]
  have hf := ho.few.at j hj
  have hm : l.getD j 0 ∈ l := by
    rw [List.getD_eq_getElem?_getD, List.getElem?_eq_getElem hj]
    exact List.getElem_mem _
  have hs := le_sum l (fun x hx => (ho.1.2.2 x hx).1) _ hm
  have h2 := ho.2
  have := mul_le_left ht.1 hs (by omega)
  have := ht.2
  exact md_yes ⟨ht, hf, h2, by omega⟩
variable (t l)
variable {t l}
theorem ordR_yes (ho : OkW l) (ht : InT t) : ordR t l = ord (rm t l) l.length := by unfold ordR; rw [if_pos ⟨(okW_iff l).2 ho, ht⟩]
variable (t l)
end
end Go.Proofs.Ytpnejhelandclaa.W4
namespace Go.Proofs.Ytpnejhelandclaa.D1
open Go Go.RowKit Go.Proofs.Ytpnejhelandclaa.P Go.Proofs.YtpnejhelandclaaW.PrintWords Go.Proofs.YtpnejhelandclaaW.PrintLast Go.Proofs.Ytpnejhelandclaa.EV
theorem and255 (y : Int) : 0 ≤ Go.bits .and .i64 y 255 ∧ Go.bits .and .i64 y 255 ≤ 255 := by
  have h : (BitVec.ofInt IntKind.i64.bits y &&& BitVec.ofInt IntKind.i64.bits 255).toNat ≤ 255 := by
    rw [BitVec.toNat_and]
    exact Nat.le_trans Nat.and_le_right (by decide)
  simp only [Go.bits]
  generalize (BitVec.ofInt IntKind.i64.bits y &&& BitVec.ofInt IntKind.i64.bits 255).toNat = m at *
  rw [IntKind.wrap_i64]
  omega
def V (b : List Int) (i : Int) : Prop := 0 ≤ i ∧ i ≤ b.length ∧ b.length ≤ 140737488351232
theorem byte_ok (b : List Int) (i h : Int) (hv : V b i) : ∃ x i' h', spec_l1Byte.f b i h = some (x, i', h') ∧ 0 ≤ x ∧ x ≤ 255 ∧ V b i' := by
  obtain ⟨h0, h1, h2⟩ := hv
  unfold spec_l1Byte.f
  by_cases hi : i < (b.length : Int)
  · rw [if_pos hi, if_pos h0]
    refine ⟨_, _, _, rfl, (and255 _).1, (and255 _).2, ?_⟩
    rw [w64_in _ (by omega) (by omega)]
    exact ⟨by omega, by omega, h2⟩
  · rw [if_neg hi]
    exact ⟨_, _, _, rfl, (and255 _).1, (and255 _).2, h0, h1, h2⟩
theorem below_ok (b : List Int) (i h n : Int) (hv : V b i) (hn : n ≤ 4294967296) : ∃ x i' h', spec_l1Below.f b i h n = some (x, i', h') ∧ 0 ≤ x ∧ (0 < n → x < n) ∧ (n ≤ 0 → x = 0) ∧ V b i' := by
  unfold spec_l1Below.f
  by_cases h0 : n ≤ 0
  · rw [if_pos h0]
    exact ⟨_, _, _, rfl, by omega, fun h => by omega, fun _ => rfl, hv⟩
  · rw [if_neg h0]
    by_cases h1 : n ≤ 256
    · rw [if_pos h1]
      obtain ⟨x, i1, g1, e1, x0, x1, v1⟩ := byte_ok b i h hv
      rw [e1, Option.bind_some, if_neg (by omega)]
      refine ⟨_, _, _, rfl, ?_, fun _ => ?_, fun h => by omega, v1⟩
      · show 0 ≤ Int.tmod x n
        rw [Int.tmod_eq_emod_of_nonneg x0]
        exact Int.emod_nonneg _ (by omega)
      · show Int.tmod x n < n
        rw [Int.tmod_eq_emod_of_nonneg x0]
        exact Int.emod_lt_of_pos _ (by omega)
    · rw [if_neg h1]
      obtain ⟨x, i1, g1, e1, x0, x1, v1⟩ := byte_ok b i h hv
      rw [e1, Option.bind_some]
      obtain ⟨y, i2, g2, e2, y0, y1, v2⟩ := byte_ok b i1 g1 v1
      simp only [e2, Option.bind_some]
      obtain ⟨z, i3, g3, e3, z0, z1, v3⟩ := byte_ok b i2 g2 v2
      simp only [e3, Option.bind_some]
      obtain ⟨u, i4, g4, e4, u0, u1, v4⟩ := byte_ok b i3 g3 v3
      simp only [e4, Option.bind_some]
      rw [if_neg (by omega), w64_in (x * 16777216) (by omega) (by omega), w64_in (y * 65536) (by omega) (by omega), w64_in (z * 256) (by omega) (by omega),
        w64_in (x * 16777216 + y * 65536) (by omega) (by omega), w64_in (x * 16777216 + y * 65536 + z * 256) (by omega) (by omega), w64_in (x * 16777216 + y * 65536 + z * 256 + u) (by omega) (by omega)]
      refine ⟨_, _, _, rfl, ?_, fun _ => ?_, fun h => by omega, v4⟩
      · rw [Int.tmod_eq_emod_of_nonneg (by omega)]
        exact Int.emod_nonneg _ (by omega)
      · rw [Int.tmod_eq_emod_of_nonneg (by omega)]
        exact Int.emod_lt_of_pos _ (by omega)
theorem new_ok (l : List Int) (hl : l.length ≤ 140737488351232) : ∃ h, Ev (fun k => spec_l1New.f k l) (l, 0, h) := by
  have key : ∀ (d : Nat) (i : Nat) (h : Int), l.length - i = d → i ≤ l.length → ∃ h', Ev (fun k => spec_l1New.l0 k l h (i : Int)) (l, 0, h') := by
    intro d
    induction d with
    | zero =>
      intro i h hd hi
      exact ⟨h, Ev_one fun k => by simp only [spec_l1New.l0]; rw [if_neg (by omega)]⟩
    | succ d ih =>
      intro i h hd hi
      by_cases h4 : (i : Int) < 4000
      · obtain ⟨h', hr⟩ := ih (i + 1) (Go.bits .and .i64 (wrap64 ((wrap64 ((wrap64 (h * 131)) + (wrap64 (rd l (i : Int))))) + 7)) 1073741823) (by omega) (by omega)
        refine ⟨h', Ev.step (fun k => ?_) hr⟩
        simp only [spec_l1New.l0]
        rw [if_pos (by omega), if_pos h4, if_pos (by omega), w_succ (i := i) (n := l.length) (by omega) (by omega)]
      · exact ⟨h, Ev_one fun k => by simp only [spec_l1New.l0]; rw [if_pos (by omega), if_neg h4]⟩
  obtain ⟨h', hr⟩ := key l.length 0 (wrap64 (11029 + (l.length : Int))) (by omega) (by omega)
  exact ⟨h', Ev.congr (fun k => rfl) hr⟩
theorem once_ok (b : List Int) (i h n : Int) (hv : V b i) (hn : n ≤ 4294967296) : ∃ x i' h', spec_l1Once.f b i h n = some (x, i', h') ∧ V b i' := by
  unfold spec_l1Once.f
  obtain ⟨x, i1, g1, e1, _, _, _, v1⟩ := below_ok b i h n hv hn
  rw [e1]
  exact ⟨_, _, _, rfl, v1⟩
theorem pick_ok (b : List Int) (i h : Int) (l : List Int) (hv : V b i) (h0 : 0 < l.length) (hn : l.length ≤ 4294967296) : ∃ x i' h', spec_l1PickInt.f b i h l = some (x, i', h') ∧ x ∈ l ∧ V b i' := by
  unfold spec_l1PickInt.f
  obtain ⟨x, i1, g1, e1, x0, x1, _, v1⟩ := below_ok b i h l.length hv (by omega)
  have x2 := x1 (by omega)
  rw [e1, Option.bind_some, if_pos x0, if_pos x2]
  refine ⟨_, _, _, rfl, ?_, v1⟩
  show rd l x ∈ l
  unfold rd
  rw [List.getD_eq_getElem?_getD, List.getElem?_eq_getElem (by omega)]
  exact List.getElem_mem _
end Go.Proofs.Ytpnejhelandclaa.D1
namespace Go.Proofs.Ytpnejhelandclaa.W5
open Go Go.RowKit Go.Proofs.Ytpnejhelandclaa Go.Proofs.Ytpnejhelandclaa.P Go.Proofs.YtpnejhelandclaaW.PrintWords Go.Proofs.YtpnejhelandclaaW.PrintLast Go.Proofs.Ytpnejhelandclaa.EV Go.Proofs.Ytpnejhelandclaa.L1 Go.Proofs.Ytpnejhelandclaa.D1
theorem j2_ok (b x3 : List Int) (x39 : Bool) (i h : Int) (hx : x39 = true → 0 < x3.length) (hl : x3.length ≤ 41) (hv : V b i) : ∃ w i' h', Ev (fun k => spec_l2DrawWeights.j2 k x3 x39 b i h) (w, i', h') ∧ w.length ≤ 41 ∧ V b i' := by
  cases x39 with
  | true =>
    obtain ⟨a, i1, h1, e1, _, v1⟩ := pick_ok b i h [(-1), 1000000000000000, 1000000000000001, 0] hv (by decide) (by decide)
    obtain ⟨o, i2, h2, e2, v2⟩ := once_ok b i1 h1 25 v1 (by decide)
    cases o with
    | true =>
      refine ⟨List.replicate 3 0, i2, h2, Ev_one fun k => ?_, by decide, v2⟩
      simp only [spec_l2DrawWeights.j2]
      rw [if_pos trivial, e1, Option.bind_some, if_pos (by have := hx rfl; omega), e2, Option.bind_some, if_pos rfl, if_pos (by decide)]
    | false =>
      refine ⟨x3.set 0 a, i2, h2, Ev_one fun k => ?_, by rw [List.length_set]; exact hl, v2⟩
      simp only [spec_l2DrawWeights.j2]
      rw [if_pos trivial, e1, Option.bind_some, if_pos (by have := hx rfl; omega), e2, Option.bind_some, if_neg (by intro hh; cases hh)]
      rfl
  | false =>
    obtain ⟨o, i2, h2, e2, v2⟩ := once_ok b i h 25 hv (by decide)
    cases o with
    | true =>
      refine ⟨List.replicate 3 0, i2, h2, Ev_one fun k => ?_, by decide, v2⟩
      simp only [spec_l2DrawWeights.j2]
      rw [if_neg (by intro hh; cases hh), e2, Option.bind_some, if_pos rfl, if_pos (by decide)]
    | false =>
      refine ⟨x3, i2, h2, Ev_one fun k => ?_, hl, v2⟩
      simp only [spec_l2DrawWeights.j2]
      rw [if_neg (by intro hh; cases hh), e2, Option.bind_some, if_neg (by intro hh; cases hh)]
theorem l0_ok (b : List Int) (n : Nat) (hn : n ≤ 41) : ∀ (d j : Nat) (x3 : List Int) (i h : Int), n - j = d → j ≤ n → x3.length = j → V b i → ∃ w i' h', Ev (fun k => spec_l2DrawWeights.l0 k x3 (n : Int) (j : Int) b i h) (w, i', h') ∧ w.length ≤ 41 ∧ V b i' := by
  intro d
  induction d with
  | zero =>
    intro j x3 i h hd hj hl hv
    obtain rfl : j = n := by omega
    by_cases h0 : 0 < j
    · obtain ⟨o, i1, h1, e1, v1⟩ := once_ok b i h 15 hv (by decide)
      obtain ⟨w, i2, h2, e2, hw, v2⟩ := j2_ok b x3 o i1 h1 (fun _ => by omega) (by omega) v1
      refine ⟨w, i2, h2, Ev.step (fun k => ?_) e2, hw, v2⟩
      simp only [spec_l2DrawWeights.l0]
      rw [if_neg (by omega), if_pos (by omega), e1, Option.bind_some]
    · obtain ⟨w, i2, h2, e2, hw, v2⟩ := j2_ok b x3 false i h (fun e => Bool.noConfusion e) (by omega) hv
      refine ⟨w, i2, h2, Ev.step (fun k => ?_) e2, hw, v2⟩
      simp only [spec_l2DrawWeights.l0]
      rw [if_neg (by omega), if_neg (by omega)]
  | succ d ih =>
    intro j x3 i h hd hj hl hv
    obtain ⟨x, i1, h1, e1, _, _, _, v1⟩ := below_ok b i h 20 hv (by decide)
    obtain ⟨o, i2, h2, e2, v2⟩ := once_ok b i1 h1 6 v1 (by decide)
    cases o with
    | true =>
      obtain ⟨y, i3, h3, e3, _, _, _, v3⟩ := below_ok b i2 h2 2000000000 v2 (by decide)
      obtain ⟨z, i4, h4, e4, _, _, _, v4⟩ := below_ok b i3 h3 100 v3 (by decide)
      obtain ⟨w, i5, h5, e5, hw, v5⟩ := ih (j + 1) (x3 ++ [wrap64 (y * z)]) i4 h4 (by omega) (by omega) (by rw [List.length_append, hl]; rfl) v4
      refine ⟨w, i5, h5, Ev.step (fun k => ?_) e5, hw, v5⟩
      simp only [spec_l2DrawWeights.l0]
      rw [if_pos (by omega), e1, Option.bind_some, e2, Option.bind_some, if_pos rfl, e3, Option.bind_some, e4, Option.bind_some, if_pos (by omega), w_succ (by omega : j < n) (by omega)]
    | false =>
      obtain ⟨w, i5, h5, e5, hw, v5⟩ := ih (j + 1) (x3 ++ [x]) i2 h2 (by omega) (by omega) (by rw [List.length_append, hl]; rfl) v2
      refine ⟨w, i5, h5, Ev.step (fun k => ?_) e5, hw, v5⟩
      simp only [spec_l2DrawWeights.l0]
      rw [if_pos (by omega), e1, Option.bind_some, e2, Option.bind_some, if_neg (by intro hh; cases hh), if_pos (by omega), w_succ (by omega : j < n) (by omega)]
theorem weights_ok (b : List Int) (i h : Int) (hv : V b i) : ∃ w i' h', Ev (fun k => spec_l2DrawWeights.f k b i h) (w, i', h') ∧ w.length ≤ 41 ∧ V b i' := by
  obtain ⟨x, i1, h1, e1, x0, x1, _, v1⟩ := below_ok b i h 6 hv (by decide)
  obtain ⟨o, i2, h2, e2, v2⟩ := once_ok b i1 h1 15 v1 (by decide)
  have hx := x1 (by decide)
  cases o with
  | true =>
    obtain ⟨y, i3, h3, e3, hy, v3⟩ := pick_ok b i2 h2 [0, 40, 41] v2 (by decide) (by decide)
    obtain ⟨n, hn, rfl⟩ : ∃ n : Nat, n ≤ 41 ∧ y = (n : Int) := by
      simp only [List.mem_cons, List.not_mem_nil, or_false] at hy
      exact ⟨y.toNat, by omega, by omega⟩
    obtain ⟨w, i4, h4, e4, hw, v4⟩ := l0_ok b n hn n 0 [] i3 h3 (by omega) (by omega) rfl v3
    refine ⟨w, i4, h4, ?_, hw, v4⟩
    unfold spec_l2DrawWeights.f
    refine Ev.congr (f := fun k => spec_l2DrawWeights.j0 k [] (n : Int) b i3 h3) (fun k => ?_) (Ev.step (fun k => ?_) e4)
    · rw [Option.bind_some, e1, Option.bind_some, e2, Option.bind_some, if_pos rfl, e3, Option.bind_some]
    · simp only [spec_l2DrawWeights.j0]
      rfl
  | false =>
    obtain ⟨n, hn, e⟩ : ∃ n : Nat, n ≤ 41 ∧ wrap64 (1 + x) = (n : Int) := ⟨(1 + x).toNat, by omega, by unfold wrap64; omega⟩
    obtain ⟨w, i4, h4, e4, hw, v4⟩ := l0_ok b n hn n 0 [] i2 h2 (by omega) (by omega) rfl v2
    refine ⟨w, i4, h4, ?_, hw, v4⟩
    unfold spec_l2DrawWeights.f
    refine Ev.congr (f := fun k => spec_l2DrawWeights.j0 k [] (n : Int) b i2 h2) (fun k => ?_) (Ev.step (fun k => ?_) e4)
    · rw [Option.bind_some, e1, Option.bind_some, e2, Option.bind_some, if_neg (by intro hh; cases hh)]
      show spec_l2DrawWeights.j0 k [] (wrap64 (1 + x)) b i2 h2 = _
      rw [e]
    · simp only [spec_l2DrawWeights.j0]
      rfl
theorem total_ok (b : List Int) (i h : Int) (hv : V b i) : ∃ t i' h', spec_l2DrawTotal.f b i h = some (t, i', h') := by
  obtain ⟨o, i1, h1, e1, v1⟩ := once_ok b i h 8 hv (by decide)
  unfold spec_l2DrawTotal.f
  rw [e1, Option.bind_some]
  cases o with
  | true =>
    obtain ⟨y, i3, h3, e3, _, v3⟩ := pick_ok b i1 h1 [0, (-1), 1000000000000000, 1000000000000001] v1 (by decide) (by decide)
    exact ⟨y, i3, h3, by rw [if_pos rfl, e3]; rfl⟩
  | false =>
    obtain ⟨y, i3, h3, e3, _, _, _, v3⟩ := below_ok b i1 h1 1000 v1 (by decide)
    exact ⟨y, i3, h3, by rw [if_neg (by intro hh; cases hh), e3]; rfl⟩
theorem both_ok (l : List Int) (hl : l.length ≤ 140737488351232) : ∃ t w, Ev (fun k => spec_l2DrawBoth.f k l) (t, w) ∧ w.length ≤ 41 := by
  obtain ⟨h0, e0⟩ := new_ok l hl
  obtain ⟨w, i1, h1, e1, hw, v1⟩ := weights_ok l 0 h0 ⟨by omega, by omega, hl⟩
  obtain ⟨t, i2, h2, e2⟩ := total_ok l i1 h1 v1
  refine ⟨t, w, ?_, hw⟩
  unfold spec_l2DrawBoth.f
  refine Ev_bind e0 (Ev_bind e1 (Ev_all_k fun k => ?_))
  show (spec_l2DrawTotal.f l i1 h1).bind _ = _
  rw [e2]
  rfl
end Go.Proofs.Ytpnejhelandclaa.W5
namespace Go.Proofs.Ytpnejhelandclaa.W6
open Go Go.RowKit Go.Proofs.Ytpnejhelandclaa Go.Proofs.Ytpnejhelandclaa.P Go.Proofs.YtpnejhelandclaaW.PrintWords Go.Proofs.YtpnejhelandclaaW.PrintLast Go.Proofs.Ytpnejhelandclaa.EV Go.Proofs.Ytpnejhelandclaa.I1 Go.Proofs.Ytpnejhelandclaa.A2 Go.Proofs.Ytpnejhelandclaa.TI Go.Proofs.Ytpnejhelandclaa.W1 Go.Proofs.Ytpnejhelandclaa.W2 Go.Proofs.Ytpnejhelandclaa.W3 Go.Proofs.Ytpnejhelandclaa.W4 Go.Proofs.Ytpnejhelandclaa.S7
section
variable {t : Int} {l : List Int}
theorem len40 (ho : OkW l) : l.length ≤ 40 := by have := ho.1.2.1; omega
end
end Go.Proofs.Ytpnejhelandclaa.W6
namespace Go.Proofs.Ytpnejhelandclaa.Pure
open Go Go.RowKit Go.Proofs.Ytpnejhelandclaa.P Go.Proofs.YtpnejhelandclaaW.PrintWords Go.Proofs.YtpnejhelandclaaW.PrintLast Go.Proofs.Ytpnejhelandclaa.EV Go.Proofs.Ytpnejhelandclaa.I1 Go.Proofs.Ytpnejhelandclaa.TI Go.Proofs.Ytpnejhelandclaa.W1 Go.Proofs.Ytpnejhelandclaa.W2 Go.Proofs.Ytpnejhelandclaa.W3 Go.Proofs.Ytpnejhelandclaa.W4 Go.Proofs.Ytpnejhelandclaa.W5 Go.Proofs.Ytpnejhelandclaa.W6 Go.Proofs.Ytpnejhelandclaa.S7
theorem same_ev (l : List Int) (hl : l.length ≤ 1000) : Ev (fun k => laws_sameInts.f k l l) true := by
  unfold laws_sameInts.f
  obtain ⟨r, hr, hiff⟩ := Ev_asks (fun k i => laws_sameInts.l0 k l l i) l.length (fun _ => True) true
    (Ev_one fun k => by simp only [laws_sameInts.l0]; rw [if_neg (by omega)])
    (fun i hi => .inl ⟨trivial, fun k => by
      show laws_sameInts.l0 (k + 1) l l (i : Int) = _
      simp only [laws_sameInts.l0]
      rw [if_pos (by omega), if_pos (by omega), if_pos (by omega), if_pos trivial, w_succ hi (by omega)]⟩) l.length 0 (by omega) (by omega)
  obtain rfl : r = true := hiff.2 ⟨fun _ _ _ => trivial, rfl⟩
  exact Ev.congr (fun k => if_pos rfl) hr
theorem within_ev (l : List Int) (a : Int) (hl : l.length ≤ 1000) (ha : a ∉ l) : Ev (fun k => laws_within.f k l a) false := by
  unfold laws_within.f
  have key : ∀ (d i : Nat), l.length - i = d → i ≤ l.length → Ev (fun k => laws_within.l0 k l a (i : Int)) false := by
    intro d
    induction d with
    | zero =>
      intro i hd hi
      exact Ev_one fun k => by
        simp only [laws_within.l0]
        rw [if_neg (by omega)]
    | succ d ih =>
      intro i hd hi
      refine Ev.step (fun k => ?_) (ih (i + 1) (by omega) (by omega))
      have hx : l.getD i 0 ∈ l := by
        rw [List.getD_eq_getElem?_getD, List.getElem?_eq_getElem (by omega : i < l.length)]
        exact List.getElem_mem _
      simp only [laws_within.l0]
      rw [if_pos (by omega), if_pos (by omega), rdi, if_neg (show ¬ l.getD i 0 = a from fun e => ha (e ▸ hx)), w_succ (by omega : i < l.length) (by omega)]
  exact key l.length 0 (by omega) (by omega)
theorem order_goes (t : Int) (l : List Int) (ho : OkW l) (ht : InT t) : ∀ (d i : Nat) (last : Int), l.length - i = d → i ≤ l.length → (0 < i → last = rm t l ((ord (rm t l) l.length).getD (i - 1) 0)) →
    Ev (fun k => laws_FnShareOrder.l0 k t l (ord (rm t l) l.length) ((ord (rm t l) l.length).take i) last (i : Int)) true := by
  have hn := len40 ho
  have ok := ord_ok (rm t l) hn
  have ol := ord_length (rm t l) hn
  have nd := ord_nodup (rm t l) hn
  have mem := fun x => @ord_mem (rm t l) l.length hn x
  generalize ord (rm t l) l.length = o at *
  intro d
  induction d with
  | zero =>
    intro i last hd hi hlast
    exact Ev_one fun k => by
      simp only [laws_FnShareOrder.l0]
      rw [if_neg (by omega), ol]
      simp
  | succ d ih =>
    intro i last hd hi hlast
    have hio : i < o.length := by omega
    have ex : o.getD i 0 = o[i] := by rw [List.getD_eq_getElem?_getD, List.getElem?_eq_getElem hio]; rfl
    have hb := (mem (o.getD i 0)).1 (by rw [ex]; exact List.getElem_mem _)
    obtain ⟨j, hj⟩ := Int.eq_ofNat_of_zero_le hb.1
    have hj2 : j < l.length := by omega
    have hq : (quota t l (o.getD i 0)).2.2 = true := by rw [hj, W4.part ho ht j hj2]
    have hr : (quota t l (o.getD i 0)).2.1 = rm t l (o.getD i 0) := rfl
    have hnot : o.getD i 0 ∉ o.take i := by
      rw [ex]
      have h1 := List.pairwise_append.1 (show (o.take i ++ o.drop i).Pairwise (· ≠ ·) by rw [List.take_append_drop]; exact nd)
      intro hm
      exact h1.2.2 _ hm _ (by rw [List.drop_eq_getElem_cons hio]; exact List.mem_cons_self ..) rfl
    have htk : o.take (i + 1) = o.take i ++ [o.getD i 0] := by
      rw [List.take_add_one, List.getElem?_eq_getElem hio, ex]
      rfl
    have next := ih (i + 1) (rm t l (o.getD i 0)) (by omega) (by omega) (fun _ => by rw [Nat.add_sub_cancel])
    rw [htk] at next
    have hlen : (o.take i).length < 17592186044416 := by rw [List.length_take]; omega
    refine Ev.step (f := fun k => (impl_ShareQuota.f k t l (o.getD i 0)).bind fun bt464 => (if bt464.2.2 = true then ((laws_within.f k (o.take i) (o.getD i 0)).bind fun t468 => (if t468 = true then (none) else (if (i : Int) > 0 then (if bt464.2.1 > last then (none) else (if bt464.2.1 = last then (if 0 ≤ (wrap64 ((i : Int) - 1)) then (if (wrap64 ((i : Int) - 1)) < (o.length : Int) then (if (o.getD i 0) < (rd o (wrap64 ((i : Int) - 1))) then (none) else (if (o.take i).length < 17592186044416 then (laws_FnShareOrder.l0 k t l o (o.take i ++ [o.getD i 0]) bt464.2.1 (wrap64 ((i : Int) + 1))) else (none))) else (none)) else (none)) else (if (o.take i).length < 17592186044416 then (laws_FnShareOrder.l0 k t l o (o.take i ++ [o.getD i 0]) bt464.2.1 (wrap64 ((i : Int) + 1))) else (none)))) else (if (o.take i).length < 17592186044416 then (laws_FnShareOrder.l0 k t l o (o.take i ++ [o.getD i 0]) bt464.2.1 (wrap64 ((i : Int) + 1))) else (none))))) else (none))) (fun k => ?_) (Ev_bind (quota_i t l _) ?_)
    · simp only [laws_FnShareOrder.l0]
      rw [if_pos (by omega), if_pos (by omega), rdi]
    · refine Ev.congr (fun k => by rw [if_pos hq, hr]) (Ev_bind (within_ev _ _ (by rw [List.length_take]; omega) hnot) (Ev.congr (fun k => ?_) next))
      rw [if_neg (by decide), w_succ (by omega : i < l.length) (by omega)]
      by_cases h0 : 0 < i
      · have e1 : wrap64 ((i : Int) - 1) = ((i - 1 : Nat) : Int) := by unfold wrap64; omega
        have hl := hlast h0
        have ey : o.getD (i - 1) 0 = o[i - 1] := by rw [List.getD_eq_getElem?_getD, List.getElem?_eq_getElem (by omega)]; rfl
        have hlt := (List.pairwise_iff_getElem.1 ok.2) (i - 1) i (by omega) hio (by omega)
        rw [← ex, ← ey] at hlt
        unfold lt at hlt
        rw [if_pos (by omega), if_neg (by omega), e1, rdi]
        by_cases g : rm t l (o.getD i 0) = last
        · rw [if_pos g, if_pos (by omega), if_pos (by omega), if_neg (by omega), if_pos hlen]
        · rw [if_neg g, if_pos hlen]
      · rw [if_neg (by omega), if_pos hlen]
theorem FnShareOrder : laws_FnShareOrder.Pure := by
  intro l hm hl _
  refine Ev.rounds ?_
  unfold laws_FnShareOrder.f laws_big.f
  simp only [Option.bind_some]
  by_cases hb : (l.length : Int) > 1048576
  · exact Ev_all_k fun k => by rw [if_pos (decide_eq_true hb)]
  · refine Ev.congr (fun k => by rw [if_neg (by rw [decide_eq_false hb]; decide)]) ?_
    obtain ⟨t, w, hd, hw⟩ := both_ok l (by omega)
    have hd' : Ev (fun k => spec_DrawShareOrder.f k l) (t, w) := by
      unfold spec_DrawShareOrder.f
      exact Ev_bind hd (Ev.now _)
    have hol := ordR_length t w
    refine Ev_bind hd' (Ev_bind (shareOrder_i t w) (Ev_bind (shareOrder_s t w) (Ev_bind (same_ev _ (by omega)) ?_)))
    refine Ev.congr (fun k => if_pos rfl) ?_
    by_cases h : okW w = true ∧ InT t
    · have ho := (okW_iff w).1 h.1
      rw [ordR_yes ho h.2]
      have ol := ord_length (rm t w) (len40 ho)
      have h1 := ho.1.1
      refine Ev.congr (fun k => if_neg (by omega)) ?_
      exact order_goes t w ho h.2 w.length 0 (-1) (by omega) (by omega) (fun h => by omega)
    · have e : ordR t w = [] := by unfold ordR; rw [if_neg h]
      rw [e]
      exact Ev_all_k fun k => if_pos rfl
end Go.Proofs.Ytpnejhelandclaa.Pure
namespace Go.Proofs.YtpnejhelandclaaW.PrintWords
open Go.ChangeShapes Go.WideShapes
theorem sized_ints {H : Type} {enc : TypeId × Value → H} {P : Program} {W : World} {base : Nat} {spare : Nat → Bool} {held : Bool} {t e : TypeId} {k : IntKind} {a : Option Addr} {len cap : Nat} {d : DataW H} {ps : List MemPlace} {ts : List TypeId} {ds : List (DataW H)} {j : Nat}
    (hsz : (DataW.weightsEach P ts ds).all (· ≤ reachBytes) = true) (ht : ts[j]? = some t) (hd : ds[j]? = some d) (hu : P.underlying t = some (.slice e)) (he : P.underlying e = some (.int k)) (hc : P.cellsOf e = 1) {B : Nat} (hB : P.bytesOf e = B)
    (h : DataW.Trod enc P W base spare held t (.slice a len cap) d ps) : len * B ≤ 140737488351232 := by
  obtain ⟨fuel, hf⟩ := h
  rcases open_ints hu he hc hf with ⟨hcs, _⟩ | ⟨x, l, c, zs, hcs, _, hl, _, hz, hx, _, _⟩
  · simp [Value.cells] at hcs
    obtain ⟨rfl, rfl, rfl⟩ := hcs
    simp
  · simp [Value.cells] at hcs
    obtain ⟨rfl, rfl, rfl⟩ := hcs
    obtain ⟨hx, _⟩ := Prod.mk.inj hx
    subst hx
    have z := sized_slice hsz ht hd hu
    rw [hB] at z
    have hl2 : len ≤ zs.length := by
      rw [hz]
      split
      · exact hl
      · exact Nat.le_refl _
    have h1 : (lits (H := H) k (zs.take len)).length + (lits (H := H) k (zs.drop len)).length = zs.length := by
      simp [lits]
      omega
    rw [h1] at z
    exact Nat.le_trans (Nat.mul_le_mul_right _ hl2) z
end Go.Proofs.YtpnejhelandclaaW.PrintWords
namespace Go.Proofs.Ytpnejhelandclaa.fnShareOrder
open Go.ChangeShapes Go.WideShapes Go.ChangeAt Go.RowKit
open Go.ChangeMaps (open_string shut_string)
set_option linter.unusedVariables false
theorem own : ownKnob Try.prog.godebug = none := by kernel_rfl
theorem laidOut : laidOutB Try.prog = true := by kernel_rfl
def IsRow (k : IntKind) (w : World) (a : Option Addr) (len cap : Nat) (zs : List Int) : Prop :=
  (a = none ∧ len = 0 ∧ cap = 0 ∧ zs = []) ∨
  ∃ x, a = some x ∧ len ≤ cap ∧ cap ≤ maxLen ∧ zs.length = cap ∧ (∀ i, i < zs.length → w.cell? (x.add i) = some (.int k (zs.getD i 0))) ∧ ∀ n ∈ zs, (Lit.int k n).wf = true
set_option maxRecDepth 100000 in
theorem lifted (os : Os) (started : os.Started) (H : Type) (enc : TypeId × Value → H) :
    ReturnsInHanded {} Try.checked os 7 .any (Rows.fnShareOrderSpec.pre6 enc Try.prog Try.f7 Rows.fnShareOrderRow.domain false) (Rows.fnShareOrderSpec.post enc Try.prog Try.f7 false true false false) := by
  refine returnsInHanded_of_change_sized (C := Try.checked) own started (by kernel_rfl) Try.func7
    (ChangeSpec.witness6 (enc := enc) (C := Try.checked) false ⟨#[], #[.slice none 0 0], []⟩ 8 (by kernel_rfl) (by kernel_rfl) (by kernel_rfl) (by kernel_rfl)) ?_
  intro W base args ds gs before hval0 hW hcnd hsz0 _
  have hsz : (DataW.weightsEach Try.prog (Try.f7.params.toList ++ Rows.fnShareOrderSpec.plain.varTypes Try.prog) (ds ++ gs)).all (· ≤ reachBytes) = true := hsz0
  have hval : ∀ (j : Nat) t v, Try.f7.params[j]? = some t → args[j]? = some v → Value.okWide Try.prog W .any base t v := hval0
  have hW' := hW
  obtain ⟨p, q, hA0, hV, rfl, hfz, hnd⟩ := hW
  have hA : DataW.TrodAll enc Try.prog W 0 (fun _ => true) true Try.f7.params.toList args.toList ds p := hA0
  rw [Try.params7] at hA hval hsz
  obtain ⟨v0, vs0, d0, ds0, p0, q0, hargs, rfl, rfl, h0, r0⟩ := trodAll_cons hA
  obtain ⟨rfl, rfl, rfl⟩ := trodAll_nil r0
  obtain rfl : args = #[v0] := by cases args; simp_all
  obtain ⟨rfl, rfl⟩ := trodVars_none hV
  obtain ⟨a0, len0, cap0, rfl⟩ := okWide_slice Try.underlying34 (hval 0 34 v0 rfl rfl)
  have k0 := h0
  have lt0 : ∀ x ∈ p0, x.block < W.heap.size := by obtain ⟨m, hm⟩ := k0; exact DataW.trod_lt m _ _ _ hm
  obtain ⟨z0, w0⟩ : ∃ zs, IsRow .u8 W a0 len0 cap0 zs := by
    obtain ⟨fuel, hf⟩ := h0
    rcases open_ints Try.underlying34 Try.underlying5 (by kernel_rfl) hf with ⟨hcs, _⟩ | ⟨x, l, c, zs, hcs, _, hl, hm, hz, _, hcell, hwz⟩
    · simp [Value.cells] at hcs
      obtain ⟨rfl, rfl, rfl⟩ := hcs
      exact ⟨[], .inl ⟨rfl, rfl, rfl, rfl⟩⟩
    · simp [Value.cells] at hcs
      obtain ⟨rfl, rfl, rfl⟩ := hcs
      exact ⟨zs, .inr ⟨_, rfl, hl, hm, by simpa using hz, hcell, hwz⟩⟩
  have y0 : len0 * 1 ≤ 140737488351232 := Go.Proofs.YtpnejhelandclaaW.PrintWords.sized_ints hsz (j := 0) (t := 34) rfl rfl Try.underlying34 Try.underlying5 (by kernel_rfl) (by kernel_rfl) h0
  clear hA0 hval0 hsz0 hsz
  refine (P.laws_FnShareOrder.walk Pure.FnShareOrder a0 len0 cap0 z0 W w0 y0).mono fun e W' ⟨he, bel⟩ => ?_
  subst he
  exact ⟨_, rfl, _, _, _, [], _, [], hW', trodAll_mk1 (shut_bool Try.underlying4 _), (trodAll_cons_mk (Below.trod laidOut (by kernel_rfl) (of_decide_eq_true (by kernel_rfl)) k0 bel lt0) trodAll_mk0), rfl, bel.frame _, fun h => by cases h⟩
theorem over : Rows.fnShareOrderRow.holds Try.pinned (OpenSpec.ofChange Rows.fnShareOrderSpec) :=
  OpenClaim.holds_of_wide 7 Try.f7 rfl rfl rfl rfl rfl rfl rfl ⟨rfl, rfl, rfl, rfl, rfl⟩ rfl rfl rfl rfl rfl (by kernel_rfl) Try.func7 (by kernel_rfl)
    (of_decide_eq_true (by kernel_rfl)) (by unfold Func.isWrapper; first | (rw [if_pos (by decide +kernel)]; kernel_rfl) | (rw [if_neg (by decide +kernel)]; exact ⟨rfl, rfl⟩))
    (fun os started H enc _ => lifted os started H enc)
theorem proved : Rows.FnShareOrderSaid := over
#print axioms proved
end Go.Proofs.Ytpnejhelandclaa.fnShareOrder
namespace Go.Proofs.Ytpnejhelandclaa
theorem fnShareOrder_holds : Rows.FnShareOrderSaid := fnShareOrder.proved
end Go.Proofs.Ytpnejhelandclaa
