/- LotsCost of the program and of the reference agree at every list. -/
import Derived.Test.YtomanpmffjkkgaaZFnExactLotsCost2
import Derived.Deep.Slices
import Derived.Deep.Fields
import Derived.ChangeSame
import Derived.ChangeShapes
import Derived.WideShapes
import Derived.SizedLaws
import Derived.Test.YtomanpmffjkkgaaRows
import Derived.WalkKit
import Derived.ProofKit
import Derived.OpenShut
import Derived.ShutString
import Derived.ChangeOld
import Derived.Below
import Derived.Carry
namespace Go.Proofs.Ytomanpmffjkkgaa.P
end Go.Proofs.Ytomanpmffjkkgaa.P
namespace Go.Proofs.Ytomanpmffjkkgaa.EV
end Go.Proofs.Ytomanpmffjkkgaa.EV
namespace Go.Proofs.Ytomanpmffjkkgaa.I1
end Go.Proofs.Ytomanpmffjkkgaa.I1
namespace Go.Proofs.Ytomanpmffjkkgaa.N1
end Go.Proofs.Ytomanpmffjkkgaa.N1
namespace Go.Proofs.Ytomanpmffjkkgaa.E1
end Go.Proofs.Ytomanpmffjkkgaa.E1
namespace Go.Proofs.Ytomanpmffjkkgaa.E2
end Go.Proofs.Ytomanpmffjkkgaa.E2
namespace Go.Proofs.Ytomanpmffjkkgaa.T1
end Go.Proofs.Ytomanpmffjkkgaa.T1
namespace Go.Proofs.Ytomanpmffjkkgaa.E1
open Go Go.RowKit Go.Proofs.Ytomanpmffjkkgaa.P Go.Proofs.YtomanpmffjkkgaaW.PrintWords Go.Proofs.YtomanpmffjkkgaaW.PrintLast Go.Proofs.Ytomanpmffjkkgaa.EV Go.Proofs.Ytomanpmffjkkgaa.I1 Go.Proofs.Ytomanpmffjkkgaa.N1
abbrev SL := S37
theorem rdL (l : List SL) (i : Nat) : rd_T37 l (i : Int) = l.getD i z37 := by unfold rd_T37; rw [Int.toNat_natCast]
def Form (x : SL) : Prop := No x.f0 ∧ No x.f1 ∧ (1 ≤ x.f2 ∧ x.f2 ≤ 1000000000) ∧ (1 ≤ x.f3 ∧ x.f3 ≤ 1000000000000000) ∧ 0 ≤ x.f4 ∧ x.f4 ≤ 1000000000000000
instance (x : SL) : Decidable (Form x) := by unfold Form No; exact inferInstance
def Lt (x y : SL) : Prop := x.f0 < y.f0 ∨ (x.f0 = y.f0 ∧ (x.f1 < y.f1 ∨ (x.f1 = y.f1 ∧ x.f2 < y.f2)))
instance (x y : SL) : Decidable (Lt x y) := by unfold Lt; exact inferInstance
theorem Lt.trans {x y z : SL} (h : Lt x y) (g : Lt y z) : Lt x z := by
  unfold Lt at *
  omega
def qty (a b : Int) : List SL → Int
  | [] => 0
  | x :: xs => (if x.f0 = a ∧ x.f1 = b then x.f3 else 0) + qty a b xs
def cst (a b : Int) : List SL → Int
  | [] => 0
  | x :: xs => (if x.f0 = a ∧ x.f1 = b then x.f4 else 0) + cst a b xs
def Chn : Option SL → List SL → Prop
  | _, [] => True
  | none, x :: xs => Chn (some x) xs
  | some y, x :: xs => Lt y x ∧ Chn (some x) xs
def Right (l : List SL) : Prop := l.length ≤ 120 ∧ (∀ x ∈ l, Form x) ∧ Chn none l ∧ ∀ a b, Amt (qty a b l) ∧ Amt (cst a b l)
theorem Chn.tail {y x : SL} {l : List SL} (h : Lt y x) (g : Chn (some x) l) : Chn (some y) l := by
  cases l with
  | nil => trivial
  | cons z zs => exact ⟨h.trans g.1, g.2⟩
theorem Chn.all {y : SL} : ∀ {l : List SL}, Chn (some y) l → ∀ x ∈ l, Lt y x
  | [], _, x, hx => by cases hx
  | z :: zs, h, x, hx => by
    rcases List.mem_cons.1 hx with rfl | hx
    · exact h.1
    · exact Chn.all (Chn.tail h.1 h.2) x hx
theorem qty_none {a b : Int} : ∀ {l : List SL}, (∀ x ∈ l, ¬(x.f0 = a ∧ x.f1 = b)) → qty a b l = 0 ∧ cst a b l = 0
  | [], _ => ⟨rfl, rfl⟩
  | x :: xs, h => by
    have ih := qty_none (l := xs) fun y hy => h y (List.mem_cons_of_mem _ hy)
    have hx := h x (List.mem_cons_self ..)
    simp only [qty, cst]
    rw [if_neg hx, if_neg hx, ih.1, ih.2]
    exact ⟨rfl, rfl⟩
theorem qty_pos {a b : Int} : ∀ {l : List SL}, (∀ x ∈ l, Form x) → 0 ≤ qty a b l ∧ 0 ≤ cst a b l ∧ qty a b l ≤ l.length * 1000000000000000 ∧ cst a b l ≤ l.length * 1000000000000000
  | [], _ => ⟨Int.le_refl _, Int.le_refl _, by simp [qty], by simp [cst]⟩
  | x :: xs, h => by
    have ih := qty_pos (a := a) (b := b) (l := xs) fun y hy => h y (List.mem_cons_of_mem _ hy)
    have hx := h x (List.mem_cons_self ..)
    unfold Form at hx
    simp only [qty, cst, List.length_cons]
    split <;> omega
theorem cmp_neg (x y : SL) : 0 ≤ impl_LotsOk.cmp x y ↔ ¬Lt x y := by
  unfold impl_LotsOk.cmp Lt
  by_cases h0 : x.f0 < y.f0
  · rw [if_pos h0]; omega
  · rw [if_neg h0]
    by_cases h1 : y.f0 < x.f0
    · rw [if_pos h1]; omega
    · rw [if_neg h1]
      by_cases h2 : x.f1 < y.f1
      · rw [if_pos h2]; omega
      · rw [if_neg h2]
        by_cases h3 : y.f1 < x.f1
        · rw [if_pos h3]; omega
        · rw [if_neg h3]
          by_cases h4 : x.f2 < y.f2
          · rw [if_pos h4]; omega
          · rw [if_neg h4]
            by_cases h5 : y.f2 < x.f2
            · rw [if_pos h5]; omega
            · rw [if_neg h5]; omega
theorem form_iff (x : SL) : impl_LotsOk.form x = true ↔ Form x := by
  unfold impl_LotsOk.form Form No
  rw [decide_eq_true_iff]
def prev (l : List SL) (i : Nat) : Option SL := if 0 < i then some (l.getD (i - 1) z37) else none
theorem chk_go (l : List SL) : ∀ (n i : Nat), l.length - i = n → i ≤ l.length → (impl_LotsOk.chk l n i = true ↔ (∀ x ∈ l.drop i, Form x) ∧ Chn (prev l i) (l.drop i))
  | 0, i, hn, hi => by
    obtain rfl : i = l.length := by omega
    rw [List.drop_length]
    unfold impl_LotsOk.chk
    exact ⟨fun _ => ⟨fun x hx => (by cases hx), trivial⟩, fun _ => rfl⟩
  | n + 1, i, hn, hi => by
    have h1 : i < l.length := by omega
    have ih := chk_go l n (i + 1) (by omega) (by omega)
    have ep : prev l (i + 1) = some (l.getD i z37) := by unfold prev; rw [if_pos (by omega), Nat.add_sub_cancel]
    rw [ep] at ih
    rw [drop_getD z37 l i h1]
    unfold impl_LotsOk.chk
    by_cases h0 : 0 < i
    · have e0 : prev l i = some (l.getD (i - 1) z37) := by unfold prev; rw [if_pos h0]
      rw [e0]
      constructor
      · intro h
        split at h
        · rename_i hg
          have h2 := ih.1 h
          refine ⟨fun x hx => ?_, Classical.byContradiction fun hh => hg.2 ⟨h0, (cmp_neg _ _).2 fun hl => hh ⟨hl, h2.2⟩⟩⟩
          rcases List.mem_cons.1 hx with rfl | hx
          · exact (form_iff _).1 hg.1
          · exact h2.1 x hx
        · cases h
      · rintro ⟨hf, hl, hc⟩
        rw [if_pos ⟨(form_iff _).2 (hf _ (List.mem_cons_self ..)), fun hh => (cmp_neg _ _).1 hh.2 hl⟩]
        exact ih.2 ⟨fun x hx => hf x (List.mem_cons_of_mem _ hx), hc⟩
    · have e0 : prev l i = none := by unfold prev; rw [if_neg h0]
      rw [e0]
      constructor
      · intro h
        split at h
        · rename_i hg
          have h2 := ih.1 h
          refine ⟨fun x hx => ?_, h2.2⟩
          rcases List.mem_cons.1 hx with rfl | hx
          · exact (form_iff _).1 hg.1
          · exact h2.1 x hx
        · cases h
      · rintro ⟨hf, hc⟩
        rw [if_pos ⟨(form_iff _).2 (hf _ (List.mem_cons_self ..)), fun hh => h0 hh.1⟩]
        exact ih.2 ⟨fun x hx => hf x (List.mem_cons_of_mem _ hx), hc⟩
theorem sum_of (a b : Int) : ∀ (l : List SL) (q c : Int), (∀ x ∈ l, Form x) → 0 ≤ q → 0 ≤ c → q + l.length * 1000000000000000 ≤ 9000000000000000000 → c + l.length * 1000000000000000 ≤ 9000000000000000000 →
    impl_LotsOk.sum3 (impl_LotsOk.of l a b) q = q + qty a b l ∧ impl_LotsOk.sum4 (impl_LotsOk.of l a b) c = c + cst a b l
  | [], q, c, _, _, _, _, _ => by simp [impl_LotsOk.of, impl_LotsOk.sum3, impl_LotsOk.sum4, qty, cst]
  | x :: xs, q, c, hf, h0, h1, h2, h3 => by
    have hx := hf x (List.mem_cons_self ..)
    have hxs : ∀ y ∈ xs, Form y := fun y hy => hf y (List.mem_cons_of_mem _ hy)
    unfold Form at hx
    simp only [List.length_cons] at h2 h3
    by_cases hk : x.f0 = a ∧ x.f1 = b
    · have e : impl_LotsOk.of (x :: xs) a b = x :: impl_LotsOk.of xs a b := by
        unfold impl_LotsOk.of
        rw [List.filter_cons_of_pos (by simpa using hk)]
      have ih := sum_of a b xs (q + x.f3) (c + x.f4) hxs (by omega) (by omega) (by omega) (by omega)
      rw [e]
      simp only [impl_LotsOk.sum3, impl_LotsOk.sum4, List.foldl_cons, qty, cst] at ih ⊢
      rw [if_pos hk, if_pos hk, w64_in (q + x.f3) (by omega) (by omega), w64_in (c + x.f4) (by omega) (by omega), ih.1, ih.2]
      omega
    · have e : impl_LotsOk.of (x :: xs) a b = impl_LotsOk.of xs a b := by
        unfold impl_LotsOk.of
        rw [List.filter_cons_of_neg (by simpa using hk)]
      have ih := sum_of a b xs q c hxs (by omega) (by omega) (by omega) (by omega)
      rw [e]
      simp only [qty, cst]
      rw [if_neg hk, if_neg hk, ih.1, ih.2]
      omega
theorem over_iff (l : List SL) (hl : l.length ≤ 120) (hf : ∀ x ∈ l, Form x) (x : SL) : impl_LotsOk.over l x = false ↔ Amt (qty x.f0 x.f1 l) ∧ Amt (cst x.f0 x.f1 l) := by
  have h := sum_of x.f0 x.f1 l 0 0 hf (Int.le_refl _) (Int.le_refl _) (by omega) (by omega)
  unfold impl_LotsOk.over
  rw [h.1, h.2, Int.zero_add, Int.zero_add]
  unfold impl_LotsOk.amt Amt
  by_cases h1 : -1000000000000000 ≤ qty x.f0 x.f1 l ∧ qty x.f0 x.f1 l ≤ 1000000000000000
  · by_cases h2 : -1000000000000000 ≤ cst x.f0 x.f1 l ∧ cst x.f0 x.f1 l ≤ 1000000000000000
    · simp [h1, h2]
    · rw [if_pos (decide_eq_true h1), decide_eq_false h2]
      exact ⟨fun h => Bool.noConfusion h, fun h => absurd h.2 h2⟩
  · rw [if_neg (by rw [decide_eq_false h1]; decide)]
    exact ⟨fun h => Bool.noConfusion h, fun h => absurd h.1 h1⟩
theorem ok_iff (l : List SL) : impl_LotsOk.ok l = true ↔ Right l := by
  unfold impl_LotsOk.ok
  have hc := chk_go l l.length 0 (by omega) (by omega)
  rw [List.drop_zero] at hc
  by_cases h1 : impl_LotsOk.chk l l.length 0 = true
  · rw [if_pos h1]
    have hg := hc.1 h1
    by_cases h2 : (l.length : Int) > 120
    · rw [if_pos h2]
      exact ⟨fun h => Bool.noConfusion h, fun h => absurd h.1 (by omega)⟩
    · rw [if_neg h2]
      have h3 : l.length ≤ 120 := by omega
      constructor
      · intro h
        have h4 : l.any (impl_LotsOk.over l) = false := by simpa using h
        refine ⟨h3, hg.1, hg.2, fun a b => ?_⟩
        by_cases hx : ∃ x ∈ l, x.f0 = a ∧ x.f1 = b
        · obtain ⟨x, hx, rfl, rfl⟩ := hx
          have h5 := List.any_eq_false.1 h4 x hx
          exact (over_iff l h3 hg.1 x).1 (by simpa using h5)
        · have h6 := qty_none (a := a) (b := b) (l := l) fun x hm hk => hx ⟨x, hm, hk⟩
          rw [h6.1, h6.2]
          unfold Amt
          omega
      · intro h
        have h4 : l.any (impl_LotsOk.over l) = false := by
          rw [List.any_eq_false]
          intro x _
          rw [(over_iff l h3 hg.1 x).2 (h.2.2.2 x.f0 x.f1)]
          decide
        rw [h4]
        rfl
  · rw [if_neg h1]
    exact ⟨fun h => Bool.noConfusion h, fun h => absurd (hc.2 ⟨h.2.1, h.2.2.1⟩) h1⟩
theorem some_s (a lo : Int) : spec_l1Some.f a lo = some (decide (lo ≤ a ∧ a ≤ 1000000000000000)) := by
  unfold spec_l1Some.f
  first | (rw [in_s]; rfl) | (rw [in_s])
theorem right_s (x : SL) : spec_l5Right.f x.f0 x.f1 x.f2 x.f3 x.f4 = some (decide (Form x)) := by
  unfold spec_l5Right.f
  simp only [no_s, in_s, some_s, Option.bind_some, decide_eq_true_iff]
  by_cases h0 : No x.f0
  · by_cases h1 : No x.f1
    · by_cases h2 : 1 ≤ x.f2 ∧ x.f2 ≤ 1000000000
      · by_cases h3 : 1 ≤ x.f3 ∧ x.f3 ≤ 1000000000000000
        · by_cases h4 : 0 ≤ x.f4 ∧ x.f4 ≤ 1000000000000000
          · rw [if_pos h0, if_pos h1, if_pos h2, if_pos h3, decide_eq_true h4, decide_eq_true (show Form x from ⟨h0, h1, h2, h3, h4⟩)]
          · rw [if_pos h0, if_pos h1, if_pos h2, if_pos h3, decide_eq_false h4, decide_eq_false (fun g : Form x => h4 g.2.2.2.2)]
        · rw [if_pos h0, if_pos h1, if_pos h2, if_neg h3, decide_eq_false (fun g : Form x => h3 g.2.2.2.1)]
      · rw [if_pos h0, if_pos h1, if_neg h2, decide_eq_false (fun g : Form x => h2 g.2.2.1)]
    · rw [if_pos h0, if_neg h1, decide_eq_false (fun g : Form x => h1 g.2.1)]
  · rw [if_neg h0, decide_eq_false (fun g : Form x => h0 g.1)]
theorem before_s (x y : SL) : spec_l5Before.f x.f0 x.f1 x.f2 x.f3 x.f4 y.f0 y.f1 y.f2 y.f3 y.f4 = some (decide (Lt x y)) := by
  unfold spec_l5Before.f spec_l4Before.f Lt
  by_cases h0 : x.f0 < y.f0
  · simp [h0]
  · by_cases h1 : x.f0 = y.f0
    · by_cases h2 : x.f1 < y.f1
      · simp [h1, h2]
      · by_cases h3 : x.f1 = y.f1 <;> simp [h1, h2, h3]
    · simp [h0, h1]
def base (p : Option SL) (q a b : Int) : Int := match p with
  | none => 0
  | some y => if y.f0 = a ∧ y.f1 = b then q else 0
def Aft (p : Option SL) (x : SL) : Prop := match p with
  | none => True
  | some y => Lt y x
instance (p : Option SL) (x : SL) : Decidable (Aft p x) := by unfold Aft; split <;> exact inferInstance
def go : Option SL → Int → Int → List SL → Bool
  | _, _, _, [] => true
  | p, q, c, x :: xs => if Form x ∧ Aft p x then (if Amt (base p q x.f0 x.f1 + x.f3) ∧ Amt (base p c x.f0 x.f1 + x.f4) then go (some x) (base p q x.f0 x.f1 + x.f3) (base p c x.f0 x.f1 + x.f4) xs else false) else false
theorem chn_cons (p : Option SL) (x : SL) (xs : List SL) : Chn p (x :: xs) ↔ Aft p x ∧ Chn (some x) xs := by
  cases p with
  | none => exact ⟨fun h => ⟨trivial, h⟩, fun h => h.2⟩
  | some y => exact Iff.rfl
theorem base_pos (p : Option SL) (q a b : Int) (h0 : 0 ≤ q) (h1 : q ≤ 1000000000000000) : 0 ≤ base p q a b ∧ base p q a b ≤ 1000000000000000 := by
  cases p with
  | none => simp only [base]; omega
  | some y => simp only [base]; split <;> omega
theorem base_own (x : SL) (q : Int) : base (some x) q x.f0 x.f1 = q := by simp only [base]; rw [if_pos ⟨trivial, trivial⟩]
theorem base_other {x : SL} {q a b : Int} (h : ¬(x.f0 = a ∧ x.f1 = b)) : base (some x) q a b = 0 := by simp only [base]; rw [if_neg h]
theorem gone {y x : SL} {xs : List SL} {a b : Int} (hl : Lt y x) (hc : Chn (some x) xs) (hy : y.f0 = a ∧ y.f1 = b) (hx : ¬(x.f0 = a ∧ x.f1 = b)) : qty a b xs = 0 ∧ cst a b xs = 0 :=
  qty_none fun z hz hk => by
    have h1 := Chn.all hc z hz
    unfold Lt at h1 hl
    omega
theorem go_iff : ∀ (l : List SL) (p : Option SL) (q c : Int), 0 ≤ q → q ≤ 1000000000000000 → 0 ≤ c → c ≤ 1000000000000000 →
    (go p q c l = true ↔ (∀ x ∈ l, Form x) ∧ Chn p l ∧ ∀ a b, Amt (base p q a b + qty a b l) ∧ Amt (base p c a b + cst a b l))
  | [], p, q, c, q0, q1, c0, c1 => by
    refine ⟨fun _ => ⟨fun x hx => (by cases hx), by cases p <;> trivial, fun a b => ?_⟩, fun _ => by cases p <;> rfl⟩
    have h1 := base_pos p q a b q0 q1
    have h2 := base_pos p c a b c0 c1
    simp only [qty, cst]
    unfold Amt
    omega
  | x :: xs, p, q, c, q0, q1, c0, c1 => by
    have hb1 := base_pos p q x.f0 x.f1 q0 q1
    have hb2 := base_pos p c x.f0 x.f1 c0 c1
    rw [go, chn_cons]
    by_cases h1 : Form x ∧ Aft p x
    · rw [if_pos h1]
      have hfx := h1.1
      unfold Form at hfx
      by_cases h2 : Amt (base p q x.f0 x.f1 + x.f3) ∧ Amt (base p c x.f0 x.f1 + x.f4)
      · rw [if_pos h2]
        have ih := go_iff xs (some x) (base p q x.f0 x.f1 + x.f3) (base p c x.f0 x.f1 + x.f4) (by omega) h2.1.2 (by omega) h2.2.2
        have key : Chn (some x) xs → ∀ a b, ((Amt (base (some x) (base p q x.f0 x.f1 + x.f3) a b + qty a b xs) ∧ Amt (base (some x) (base p c x.f0 x.f1 + x.f4) a b + cst a b xs)) ↔ (Amt (base p q a b + qty a b (x :: xs)) ∧ Amt (base p c a b + cst a b (x :: xs)))) := by
          intro hc a b
          by_cases hk : x.f0 = a ∧ x.f1 = b
          · obtain ⟨rfl, rfl⟩ := hk
            rw [base_own, base_own]
            simp only [qty, cst]
            rw [if_pos ⟨trivial, trivial⟩, if_pos ⟨trivial, trivial⟩, Int.add_assoc, Int.add_assoc]
          · rw [base_other hk, base_other hk]
            simp only [qty, cst]
            rw [if_neg hk, if_neg hk]
            simp only [Int.zero_add]
            cases p with
            | none => simp only [base, Int.zero_add]
            | some y =>
              by_cases hy : y.f0 = a ∧ y.f1 = b
              · have hg := gone h1.2 hc hy hk
                simp only [base]
                rw [if_pos hy, if_pos hy, hg.1, hg.2]
                unfold Amt
                omega
              · rw [base_other hy, base_other hy]
                simp only [Int.zero_add]
        constructor
        · intro h
          obtain ⟨f1, f2, f3⟩ := ih.1 h
          refine ⟨fun z hz => ?_, ⟨h1.2, f2⟩, fun a b => (key f2 a b).1 (f3 a b)⟩
          rcases List.mem_cons.1 hz with rfl | hz
          · exact h1.1
          · exact f1 z hz
        · rintro ⟨f1, ⟨_, f2⟩, f3⟩
          exact ih.2 ⟨fun z hz => f1 z (List.mem_cons_of_mem _ hz), f2, fun a b => (key f2 a b).2 (f3 a b)⟩
      · rw [if_neg h2]
        refine ⟨fun h => Bool.noConfusion h, fun h => absurd ?_ h2⟩
        obtain ⟨f1, ⟨_, f2⟩, f3⟩ := h
        have h3 := f3 x.f0 x.f1
        have h4 := qty_pos (a := x.f0) (b := x.f1) (l := xs) fun z hz => f1 z (List.mem_cons_of_mem _ hz)
        simp only [qty, cst] at h3
        rw [if_pos ⟨trivial, trivial⟩, if_pos ⟨trivial, trivial⟩] at h3
        unfold Amt at h3 ⊢
        omega
    · rw [if_neg h1]
      exact ⟨fun h => Bool.noConfusion h, fun h => absurd ⟨h.1 x (List.mem_cons_self ..), h.2.1.1⟩ h1⟩
theorem lotsOk_s (l : List SL) : Ev (fun k => spec_LotsOk.f k l) (impl_LotsOk.ok l) := by
  unfold spec_LotsOk.f
  have hok : impl_LotsOk.ok l = (if (l.length : Int) > 120 then false else go none 0 0 l) := by
    rw [Bool.eq_iff_iff, ok_iff]
    by_cases h : (l.length : Int) > 120
    · rw [if_pos h]
      exact ⟨fun g => absurd g.1 (by omega), fun g => Bool.noConfusion g⟩
    · rw [if_neg h, go_iff l none 0 0 (by omega) (by omega) (by omega) (by omega)]
      unfold Right
      simp only [base, Int.zero_add]
      exact ⟨fun g => g.2, fun g => ⟨by omega, g⟩⟩
  rw [hok]
  by_cases hn : (l.length : Int) > 120
  · rw [if_pos hn]
    exact Ev_all_k fun k => by rw [if_pos hn]
  · rw [if_neg hn]
    have h := Ev_goes' (fun k (s : Int × Int) i => spec_LotsOk.l0 k l s.1 s.2 i) l.length (fun i s => go (prev l i) s.1 s.2 (l.drop i)) (fun i s => 0 ≤ s.1 ∧ s.1 ≤ 1000000000000000 ∧ 0 ≤ s.2 ∧ s.2 ≤ 1000000000000000)
      (fun s hs => Ev_one fun k => by
        simp only [spec_LotsOk.l0]
        rw [if_neg (by omega), List.drop_length]
        cases prev l l.length <;> rfl)
      (fun i s hi hs => by
        obtain ⟨q, c⟩ := s
        obtain ⟨q0, q1, c0, c1⟩ := hs
        simp only at q0 q1 c0 c1
        show (Ev (fun k => spec_LotsOk.l0 k l q c (i : Int)) (go (prev l i) q c (l.drop i))) ∨ _
        have ep : prev l (i + 1) = some (l.getD i z37) := by unfold prev; rw [if_pos (by omega), Nat.add_sub_cancel]
        rw [drop_getD z37 l i hi]
        show (Ev (fun k => spec_LotsOk.l0 k l q c (i : Int)) (go (prev l i) q c (l.getD i z37 :: l.drop (i + 1)))) ∨ ∃ s' : Int × Int, _ ∧ go (prev l (i + 1)) s'.1 s'.2 (l.drop (i + 1)) = go (prev l i) q c (l.getD i z37 :: l.drop (i + 1)) ∧ _
        rw [ep]
        generalize hx : l.getD i z37 = x
        rw [go]
        have hb1 := base_pos (prev l i) q x.f0 x.f1 q0 q1
        have hb2 := base_pos (prev l i) c x.f0 x.f1 c0 c1
        -- the round's last part
        have e3 : Form x → ∀ (a b : Int), 0 ≤ a → a ≤ 1000000000000000 → 0 ≤ b → b ≤ 1000000000000000 → ∀ k, spec_LotsOk.j3 (k + 1) l a b (i : Int) x.f0 x.f1 x.f2 x.f3 x.f4 = if Amt (a + x.f3) ∧ Amt (b + x.f4) then spec_LotsOk.l0 k l (a + x.f3) (b + x.f4) ((i + 1 : Nat) : Int) else some false := by
          intro hf a b a0 a1 b0 b1 k
          unfold Form at hf
          simp only [spec_LotsOk.j3]
          rw [w64_in (a + x.f3) (by omega) (by omega), w64_in (b + x.f4) (by omega) (by omega), w_succ hi (by omega), amt_s, amt_s, Option.bind_some, Option.bind_some]
          by_cases h1 : Amt (a + x.f3)
          · by_cases h2 : Amt (b + x.f4)
            · rw [if_pos (decide_eq_true h1), if_pos (decide_eq_true h2), if_pos ⟨h1, h2⟩]
            · rw [if_pos (decide_eq_true h1), if_neg (by rw [decide_eq_false h2]; decide), if_neg fun g => h2 g.2]
          · rw [if_neg (by rw [decide_eq_false h1]; decide), if_neg fun g => h1 g.1]
        have e2 : ∀ k (t : Bool), spec_LotsOk.j2 (k + 1) l q c (i : Int) t x.f0 x.f1 x.f2 x.f3 x.f4 = if t = true then spec_LotsOk.j3 k l 0 0 (i : Int) x.f0 x.f1 x.f2 x.f3 x.f4 else spec_LotsOk.j3 k l q c (i : Int) x.f0 x.f1 x.f2 x.f3 x.f4 := fun k t => by simp only [spec_LotsOk.j2]
        -- what the round comes to, once the pair's own amounts are known
        have fin : ∀ a b, Form x → a = base (prev l i) q x.f0 x.f1 → b = base (prev l i) c x.f0 x.f1 → Aft (prev l i) x → (∀ r, Ev (fun k => spec_LotsOk.j3 k l a b (i : Int) x.f0 x.f1 x.f2 x.f3 x.f4) r → Ev (fun k => spec_LotsOk.l0 k l q c (i : Int)) r) →
            (Ev (fun k => spec_LotsOk.l0 k l q c (i : Int)) (if Form x ∧ Aft (prev l i) x then (if Amt (base (prev l i) q x.f0 x.f1 + x.f3) ∧ Amt (base (prev l i) c x.f0 x.f1 + x.f4) then go (some x) (base (prev l i) q x.f0 x.f1 + x.f3) (base (prev l i) c x.f0 x.f1 + x.f4) (l.drop (i + 1)) else false) else false)) ∨
            ∃ s' : Int × Int, (0 ≤ s'.1 ∧ s'.1 ≤ 1000000000000000 ∧ 0 ≤ s'.2 ∧ s'.2 ≤ 1000000000000000) ∧ go (some x) s'.1 s'.2 (l.drop (i + 1)) = (if Form x ∧ Aft (prev l i) x then (if Amt (base (prev l i) q x.f0 x.f1 + x.f3) ∧ Amt (base (prev l i) c x.f0 x.f1 + x.f4) then go (some x) (base (prev l i) q x.f0 x.f1 + x.f3) (base (prev l i) c x.f0 x.f1 + x.f4) (l.drop (i + 1)) else false) else false) ∧
              ∀ r, Ev (fun k => spec_LotsOk.l0 k l s'.1 s'.2 ((i + 1 : Nat) : Int)) r → Ev (fun k => spec_LotsOk.l0 k l q c (i : Int)) r := by
          rintro a b hf rfl rfl ha step
          rw [if_pos ⟨hf, ha⟩]
          have hf' := hf
          unfold Form at hf'
          by_cases hm : Amt (base (prev l i) q x.f0 x.f1 + x.f3) ∧ Amt (base (prev l i) c x.f0 x.f1 + x.f4)
          · rw [if_pos hm]
            refine .inr ⟨(base (prev l i) q x.f0 x.f1 + x.f3, base (prev l i) c x.f0 x.f1 + x.f4), ⟨by show 0 ≤ _ + x.f3; omega, hm.1.2, by show 0 ≤ _ + x.f4; omega, hm.2.2⟩, rfl, fun r hr => ?_⟩
            refine step r (Ev.step (fun k => ?_) hr)
            show spec_LotsOk.j3 (k + 1) l _ _ (i : Int) x.f0 x.f1 x.f2 x.f3 x.f4 = _
            rw [e3 hf _ _ hb1.1 hb1.2 hb2.1 hb2.2 k, if_pos hm]
          · rw [if_neg hm]
            refine .inl (step false (Ev_one fun k => ?_))
            show spec_LotsOk.j3 (k + 1) l _ _ (i : Int) x.f0 x.f1 x.f2 x.f3 x.f4 = _
            rw [e3 hf _ _ hb1.1 hb1.2 hb2.1 hb2.2 k, if_neg hm]
        by_cases hf : Form x
        · by_cases h0 : 0 < i
          · have e0 : prev l i = some (l.getD (i - 1) z37) := by unfold prev; rw [if_pos h0]
            generalize hy : l.getD (i - 1) z37 = y at e0
            have eA : ∀ k, spec_LotsOk.l0 (k + 1) l q c (i : Int) = spec_LotsOk.j1 k l q c (i : Int) (!decide (Lt y x)) x.f0 x.f1 x.f2 x.f3 x.f4 := by
              intro k
              simp only [spec_LotsOk.l0]
              rw [if_pos (by omega), if_pos (by omega), w_pred hi h0 (by omega)]
              simp only [rdL, hx, hy, right_s, before_s, Option.bind_some, decide_eq_true_iff]
              rw [if_pos hf, if_pos (by omega), if_pos (by omega), if_pos (by omega)]
            by_cases hl : Lt y x
            · have ha : Aft (prev l i) x := by rw [e0]; exact hl
              have eB : ∀ k, spec_LotsOk.j1 (k + 1) l q c (i : Int) false x.f0 x.f1 x.f2 x.f3 x.f4 = spec_LotsOk.j2 k l q c (i : Int) (!decide (y.f0 = x.f0 ∧ y.f1 = x.f1)) x.f0 x.f1 x.f2 x.f3 x.f4 := by
                intro k
                simp only [spec_LotsOk.j1]
                rw [if_neg (by decide), if_neg (by omega), w_pred hi h0 (by omega), if_pos (by omega), if_pos (by omega)]
                simp only [rdL, hy]
                by_cases k1 : x.f0 = y.f0
                · rw [if_pos k1]
                  by_cases k2 : x.f1 = y.f1
                  · rw [decide_eq_true (show y.f0 = x.f0 ∧ y.f1 = x.f1 from ⟨k1.symm, k2.symm⟩), k2]
                    simp
                  · rw [decide_eq_false (show ¬(y.f0 = x.f0 ∧ y.f1 = x.f1) from fun g => k2 g.2.symm), show (x.f1 != y.f1) = true by simpa using k2]
                    rfl
                · rw [if_neg k1, decide_eq_false (show ¬(y.f0 = x.f0 ∧ y.f1 = x.f1) from fun g => k1 g.1.symm)]
                  rfl
              by_cases hk : y.f0 = x.f0 ∧ y.f1 = x.f1
              · refine fin q c hf (by rw [e0]; simp only [base]; rw [if_pos hk]) (by rw [e0]; simp only [base]; rw [if_pos hk]) ha fun r hr => ?_
                refine Ev.step (fun k => by rw [eA k, decide_eq_true hl]) (Ev.step (fun k => by show spec_LotsOk.j1 (k + 1) l q c (i : Int) false x.f0 x.f1 x.f2 x.f3 x.f4 = _; rw [eB k, decide_eq_true hk]) (Ev.step (fun k => by show spec_LotsOk.j2 (k + 1) l q c (i : Int) false x.f0 x.f1 x.f2 x.f3 x.f4 = _; rw [e2 k, if_neg (by decide)]) hr))
              · refine fin 0 0 hf (by rw [e0]; simp only [base]; rw [if_neg hk]) (by rw [e0]; simp only [base]; rw [if_neg hk]) ha fun r hr => ?_
                refine Ev.step (fun k => by rw [eA k, decide_eq_true hl]) (Ev.step (fun k => by show spec_LotsOk.j1 (k + 1) l q c (i : Int) false x.f0 x.f1 x.f2 x.f3 x.f4 = _; rw [eB k, decide_eq_false hk]) (Ev.step (fun k => by show spec_LotsOk.j2 (k + 1) l q c (i : Int) true x.f0 x.f1 x.f2 x.f3 x.f4 = _; rw [e2 k, if_pos rfl]) hr))
            · have ha : ¬(Form x ∧ Aft (prev l i) x) := by rw [e0]; exact fun g => hl g.2
              rw [if_neg ha]
              refine .inl (Ev.step (fun k => by rw [eA k, decide_eq_false hl]) (Ev_one fun k => ?_))
              show spec_LotsOk.j1 (k + 1) l q c (i : Int) true x.f0 x.f1 x.f2 x.f3 x.f4 = _
              simp only [spec_LotsOk.j1]
              rw [if_pos trivial]
          · have e0 : prev l i = none := by unfold prev; rw [if_neg h0]
            have ha : Aft (prev l i) x := by rw [e0]; exact trivial
            have hz : (i : Int) = 0 := by omega
            refine fin 0 0 hf (by rw [e0]; rfl) (by rw [e0]; rfl) ha fun r hr => ?_
            refine Ev.step (f := fun k => spec_LotsOk.j1 k l q c (i : Int) false x.f0 x.f1 x.f2 x.f3 x.f4) (fun k => ?_) (Ev.step (f := fun k => spec_LotsOk.j2 k l q c (i : Int) true x.f0 x.f1 x.f2 x.f3 x.f4) (fun k => ?_) (Ev.step (fun k => by show spec_LotsOk.j2 (k + 1) l q c (i : Int) true x.f0 x.f1 x.f2 x.f3 x.f4 = _; rw [e2 k, if_pos rfl]) hr))
            · show spec_LotsOk.l0 (k + 1) l q c (i : Int) = _
              simp only [spec_LotsOk.l0]
              rw [if_pos (by omega), if_pos (by omega)]
              simp only [rdL, hx, right_s, Option.bind_some, decide_eq_true_iff]
              rw [if_pos hf, if_neg (by omega)]
            · show spec_LotsOk.j1 (k + 1) l q c (i : Int) false x.f0 x.f1 x.f2 x.f3 x.f4 = _
              simp only [spec_LotsOk.j1]
              rw [if_neg (by decide), if_pos hz]
        · rw [if_neg (fun g => hf g.1)]
          refine .inl (Ev.step (f := fun k => spec_LotsOk.j1 k l q c (i : Int) true x.f0 x.f1 x.f2 x.f3 x.f4) (fun k => ?_) (Ev_one fun k => ?_))
          · show spec_LotsOk.l0 (k + 1) l q c (i : Int) = _
            simp only [spec_LotsOk.l0]
            rw [if_pos (by omega), if_pos (by omega)]
            simp only [rdL, hx, right_s, Option.bind_some, decide_eq_true_iff]
            rw [if_neg hf]
          · show spec_LotsOk.j1 (k + 1) l q c (i : Int) true x.f0 x.f1 x.f2 x.f3 x.f4 = _
            simp only [spec_LotsOk.j1]
            rw [if_pos trivial]) l.length 0 (0, 0) (by omega) (by omega) ⟨by decide, by decide, by decide, by decide⟩
    refine Ev.congr (fun k => by rw [if_neg hn]; rfl) h
end Go.Proofs.Ytomanpmffjkkgaa.E1
namespace Go.Proofs.Ytomanpmffjkkgaa.E2
open Go Go.RowKit Go.Proofs.Ytomanpmffjkkgaa.P Go.Proofs.YtomanpmffjkkgaaW.PrintWords Go.Proofs.YtomanpmffjkkgaaW.PrintLast Go.Proofs.Ytomanpmffjkkgaa.EV Go.Proofs.Ytomanpmffjkkgaa.I1 Go.Proofs.Ytomanpmffjkkgaa.N1 Go.Proofs.Ytomanpmffjkkgaa.E1
def Own (a b : Int) (x : SL) : Bool := decide (x.f0 = a ∧ x.f1 = b)
def ofL (a b : Int) (l : List SL) : List SL := l.filter (Own a b)
def outL (a b : Int) (l : List SL) : List SL := l.filter fun x => !Own a b x
theorem of_len (a b : Int) (l : List SL) : (ofL a b l).length ≤ l.length := List.length_filter_le _ _
theorem split_s (l : List SL) (a b : Int) (hl : l.length ≤ 1048577) : Ev (fun k => spec_l5Split.f k l a b) (ofL a b l, outL a b l) := by
  unfold spec_l5Split.f
  have h := Ev_goes (fun k (s : List SL × List SL) i => spec_l5Split.l0 k l a b s.1 s.2 i) l.length (fun i s => (s.1 ++ ofL a b (l.drop i), s.2 ++ outL a b (l.drop i))) (fun i s => s.1.length ≤ i ∧ s.2.length ≤ i)
    (fun s _ => Ev_one fun k => by
      simp only [spec_l5Split.l0]
      rw [if_neg (by omega), List.drop_length]
      simp [ofL, outL])
    (fun i s hi hs => by
      obtain ⟨p, q⟩ := s
      simp only at hs
      have e : l.drop i = l.getD i z37 :: l.drop (i + 1) := drop_getD z37 l i hi
      by_cases h1 : (l.getD i z37).f0 = a ∧ (l.getD i z37).f1 = b
      · refine .inr ⟨(p ++ [l.getD i z37], q), ⟨by show (p ++ [_]).length ≤ i + 1; rw [List.length_append, List.length_singleton]; omega, Nat.le_succ_of_le hs.2⟩, ?_, fun k => ?_⟩
        · have hO : Own a b (l.getD i z37) = true := decide_eq_true h1
          rw [e]
          simp only [ofL, outL]
          rw [List.filter_cons_of_pos hO, List.filter_cons_of_neg (by rw [hO]; decide), List.append_assoc]
          rfl
        · show spec_l5Split.l0 (k + 1) l a b p q (i : Int) = _
          simp only [spec_l5Split.l0]
          rw [if_pos (by omega), if_pos (by omega), w_succ hi (by omega)]
          simp only [rdL]
          rw [if_pos h1.1, if_pos h1.2, if_pos (by omega)]
      · have step : ∀ k, spec_l5Split.l0 (k + 1) l a b p q (i : Int) = spec_l5Split.l0 k l a b p (q ++ [l.getD i z37]) ((i + 1 : Nat) : Int) := fun k => by
          simp only [spec_l5Split.l0]
          rw [if_pos (by omega), if_pos (by omega), w_succ hi (by omega)]
          simp only [rdL]
          by_cases h2 : (l.getD i z37).f0 = a
          · rw [if_pos h2, if_neg fun h3 => h1 ⟨h2, h3⟩, if_pos (by omega)]
          · rw [if_neg h2, if_pos (by omega)]
        refine .inr ⟨(p, q ++ [l.getD i z37]), ⟨Nat.le_succ_of_le hs.1, by show (q ++ [_]).length ≤ i + 1; rw [List.length_append, List.length_singleton]; omega⟩, ?_, step⟩
        have hO : Own a b (l.getD i z37) = false := decide_eq_false h1
        rw [e]
        simp only [ofL, outL]
        rw [List.filter_cons_of_neg (by rw [hO]; decide), List.filter_cons_of_pos (by rw [hO]; decide), List.append_assoc]
        rfl) l.length 0 ([], []) (by omega) (by omega) ⟨Nat.le_refl _, Nat.le_refl _⟩
  exact h
theorem cost_s (l : List SL) (hl : l.length ≤ 1048577) : Ev (fun k => spec_l5Cost.f k l) (impl_LotsOk.sum4 l 0) := by
  unfold spec_l5Cost.f
  have h := Ev_goes (fun k (s : Int) i => spec_l5Cost.l0 k l s i) l.length (fun i s => impl_LotsOk.sum4 (l.drop i) s) (fun _ _ => True)
    (fun s _ => Ev_one fun k => by
      simp only [spec_l5Cost.l0]
      rw [if_neg (by omega), List.drop_length]
      rfl)
    (fun i s hi _ => .inr ⟨wrap64 (s + (l.getD i z37).f4), trivial, by rw [drop_getD z37 l i hi]; rfl, fun k => by
      show spec_l5Cost.l0 (k + 1) l s (i : Int) = _
      simp only [spec_l5Cost.l0]
      rw [if_pos (by omega), if_pos (by omega), w_succ hi (by omega), rdL]⟩) l.length 0 0 (by omega) (by omega) trivial
  exact h
theorem sums_i (l : List SL) (hl : l.length ≤ 1048577) : Ev (fun k => impl_sumLots.f k l) (impl_LotsOk.sum3 l 0, impl_LotsOk.sum4 l 0) := by
  unfold impl_sumLots.f
  have h := Ev_goes (fun k (s : Int × Int) i => impl_sumLots.l0 k s.1 s.2 l (l.length : Int) i) l.length (fun i s => (impl_LotsOk.sum3 (l.drop i) s.1, impl_LotsOk.sum4 (l.drop i) s.2)) (fun _ _ => True)
    (fun s _ => Ev_one fun k => by
      simp only [impl_sumLots.l0]
      rw [if_neg (by omega), List.drop_length]
      rfl)
    (fun i s hi _ => .inr ⟨(wrap64 (s.1 + (l.getD i z37).f3), wrap64 (s.2 + (l.getD i z37).f4)), trivial, by rw [drop_getD z37 l i hi]; rfl, fun k => by
      show impl_sumLots.l0 (k + 1) s.1 s.2 l (l.length : Int) (i : Int) = _
      simp only [impl_sumLots.l0]
      rw [if_pos (by omega), if_pos (by omega), if_pos (by omega), w_succ hi (by omega), rdL]⟩) l.length 0 (0, 0) (by omega) (by omega) trivial
  exact h
def lotsL (l : List SL) (a b : Int) : List SL := if impl_LotsOk.ok l = true then ofL a b l else []
theorem lots_len (l : List SL) (a b : Int) : (lotsL l a b).length ≤ l.length := by
  unfold lotsL
  split
  · exact of_len a b l
  · exact Nat.zero_le _
theorem lotsOf_s (l : List SL) (a b : Int) (hl : l.length ≤ 1048576) : Ev (fun k => spec_LotsOf.f k l a b) (lotsL l a b) := by
  unfold spec_LotsOf.f lotsL
  refine Ev_bind (lotsOk_s l) ?_
  by_cases h : impl_LotsOk.ok l = true
  · rw [if_pos h]
    refine Ev.congr (fun k => if_pos h) ?_
    exact Ev_bind (split_s l a b (by omega)) (Ev_all_k fun k => rfl)
  · rw [if_neg h]
    exact Ev_all_k fun k => if_neg h
theorem lotsOf_i (l : List SL) (a b : Int) (hl : l.length ≤ 1048576) : impl_LotsOf.f l a b = some (lotsL l a b) := by
  unfold impl_LotsOf.f impl_LotsOk.f lotsL
  rw [if_pos (by omega), Option.bind_some]
  by_cases h : impl_LotsOk.ok l = true
  · rw [if_pos h, if_pos h]
    unfold impl_lotsOf.f
    rw [if_pos (by omega)]
    rfl
  · rw [if_neg h, if_neg h]
end Go.Proofs.Ytomanpmffjkkgaa.E2
namespace Go.Proofs.Ytomanpmffjkkgaa.T1
open Go Go.RowKit Go.Proofs.Ytomanpmffjkkgaa.P Go.Proofs.YtomanpmffjkkgaaW.PrintWords Go.Proofs.YtomanpmffjkkgaaW.PrintLast Go.Proofs.Ytomanpmffjkkgaa.EV
def cvLot (x : S34) : S37 := ⟨x.f0, x.f1, x.f2, x.f3, x.f4⟩
theorem sz_Lot  (l : List S34) (left : Int) (h0 : 0 ≤ left) (h1 : left ≤ 1048576) (hm : l.length ≤ 9223372036854775807) : laws_szLotS.f l left = some (if left < (l.length : Int) then -1 else left - l.length) := by
  unfold laws_szLotS.f
  rw [w64_in _ (by omega) (by omega)]
  by_cases h : left < (l.length : Int)
  · rw [if_pos h, if_pos (by omega)]
  · rw [if_neg h, if_neg (by omega)]
theorem rd1_Lot (l : List S34) (i : Nat) : rd_T34 l (i : Int) = l.getD i z34 := by unfold rd_T34; rw [Int.toNat_natCast]
theorem to_Lot  (l : List S34) (hl : l.length ≤ 1048576) : Ev (fun k => laws_toLotS.f k l) (l.map cvLot) := by
  unfold laws_toLotS.f
  have h := Ev_goes (fun k s i => laws_toLotS.l0 k l s i) l.length (fun i s => s.take i ++ (l.drop i).map cvLot) (fun i s => s.length = l.length)
    (fun s hs => Ev_one fun k => by
      simp only [laws_toLotS.l0]
      rw [if_neg (by omega), List.drop_length, List.map_nil, List.append_nil, ← hs, List.take_length])
    (fun i s hi hs => .inr ⟨s.set i (cvLot (l.getD i z34)), by rw [List.length_set]; exact hs, by
        rw [List.take_add_one, List.take_set_of_le (Nat.le_refl i), List.getElem?_set_self (by omega), List.drop_eq_getElem_cons hi, List.map_cons]
        have : l.getD i z34 = l[i] := by rw [List.getD_eq_getElem?_getD, List.getElem?_eq_getElem hi]; rfl
        rw [this]
        simp, fun k => by
        show laws_toLotS.l0 (k + 1) l s (i : Int) = _
        simp only [laws_toLotS.l0]
        rw [if_pos (by omega), if_pos (by omega), w_succ hi (by omega)]
        simp only [laws_toLot.f, Option.bind_some, rd1_Lot]
        rw [if_pos (by omega)]
        simp only [Int.toNat_natCast]
        rfl⟩) l.length 0 (List.replicate l.length z37) (by omega) (by omega) (by simp)
  refine Ev.congr (fun k => ?_) h
  rw [if_pos (by omega), if_pos (by omega)]
  rfl
theorem eq1_Lot (x : S37) : laws_eqLot.f x.f0 x.f1 x.f2 x.f3 x.f4 x.f0 x.f1 x.f2 x.f3 x.f4 = some true := by unfold laws_eqLot.f; simp
theorem eq_Lot (l : List S37) (hl : l.length ≤ 9223372036854775807) : Ev (fun k => laws_eqLotS.f k l l) true := by
  unfold laws_eqLotS.f
  obtain ⟨r, hr, hiff⟩ := Ev_asks (fun k i => laws_eqLotS.l0 k l l i) l.length (fun _ => True) true
    (Ev_one fun k => by simp only [laws_eqLotS.l0]; rw [if_neg (by omega)])
    (fun i hi => .inl ⟨trivial, fun k => by
      show laws_eqLotS.l0 (k + 1) l l (i : Int) = _
      simp only [laws_eqLotS.l0]
      rw [if_pos (by omega), if_pos (by omega), if_pos (by omega), w_succ hi (by omega)]
      simp only [eq1_Lot, Option.bind_some, if_true]⟩) l.length 0 (by omega) (by omega)
  obtain rfl : r = true := hiff.2 ⟨fun _ _ _ => trivial, rfl⟩
  refine Ev.congr (fun k => ?_) hr
  rw [if_pos rfl]
  rfl
end Go.Proofs.Ytomanpmffjkkgaa.T1
namespace Go.Proofs.Ytomanpmffjkkgaa.Pure
open Go Go.RowKit Go.Proofs.Ytomanpmffjkkgaa.P Go.Proofs.YtomanpmffjkkgaaW.PrintWords Go.Proofs.YtomanpmffjkkgaaW.PrintLast Go.Proofs.Ytomanpmffjkkgaa.EV Go.Proofs.Ytomanpmffjkkgaa.I1 Go.Proofs.Ytomanpmffjkkgaa.E1 Go.Proofs.Ytomanpmffjkkgaa.E2 Go.Proofs.Ytomanpmffjkkgaa.T1
theorem FnExactLotsCost : ∀ (l0 : List (S34)) (a1 : Int) (a2 : Int), l0.length ≤ 9223372036854775807 → (∀ x ∈ l0, (Lit.int .i64 x.f0).wf = true ∧ (Lit.int .i64 x.f1).wf = true ∧ (Lit.int .i64 x.f2).wf = true ∧ (Lit.int .i64 x.f3).wf = true ∧ (Lit.int .i64 x.f4).wf = true) → (Lit.int .i64 a1).wf = true → (Lit.int .i64 a2).wf = true → ∃ k, laws_FnExactLotsCost.f k l0 a1 a2 = some true := by
  intro l a b hm0 _ _ _
  refine Ev.rounds ?_
  unfold laws_FnExactLotsCost.f
  by_cases hl : 1048576 < l.length
  · exact Ev_all_k fun k => by rw [sz_Lot l 1048576 (by decide) (by decide) hm0, if_pos (by omega), Option.bind_some, if_pos (by decide)]
  · have hm : l.length ≤ 1048576 := by omega
    have hc : (l.map cvLot).length ≤ 1048576 := by rw [List.length_map]; omega
    have ho := lots_len (l.map cvLot) a b
    refine Ev.congr (fun k => by rw [sz_Lot l 1048576 (by decide) (by decide) (by omega), if_neg (by omega), Option.bind_some, if_neg (by omega)]) ?_
    have hS : Ev (fun k => spec_LotsCost.f k (l.map cvLot) a b) (impl_LotsOk.sum4 (lotsL (l.map cvLot) a b) 0) := by
      unfold spec_LotsCost.f
      exact Ev_bind (lotsOf_s _ a b hc) (Ev_bind (cost_s _ (by omega)) (Ev_all_k fun k => rfl))
    have hI : Ev (fun k => impl_LotsCost.f k (l.map cvLot) a b) (impl_LotsOk.sum4 (lotsL (l.map cvLot) a b) 0) := by
      unfold impl_LotsCost.f
      exact Ev_bind (Ev_all_k fun k => lotsOf_i _ a b hc) (Ev_bind (sums_i _ (by omega)) (Ev_all_k fun k => rfl))
    refine Ev_bind (to_Lot l hm) (Ev_bind hS (Ev_bind (to_Lot l hm) (Ev_bind hI ?_)))
    refine Ev.congr (fun k => if_pos rfl) ?_
    refine Ev_bind (to_Lot l hm) (Ev_bind (eq_Lot _ (by omega)) ?_)
    exact Ev_all_k fun k => rfl
end Go.Proofs.Ytomanpmffjkkgaa.Pure
namespace Go.Proofs.Ytomanpmffjkkgaa.RS
open Go Go.ChangeShapes Go.WideShapes Go.Deep Go.RowKit Go.Proofs.YtomanpmffjkkgaaW.PrintWords
def allInts (P : Program) (fs : Array Field) : Bool := (List.range fs.size).all fun i => match fs[i]? with
  | some f => (match P.underlying f.type with | some (.int .i64) => true | _ => false)
  | none => false
theorem allInts_of {P : Program} {fs : Array Field} (h : allInts P fs = true) : ∀ (i : Nat) (f : Field), fs[i]? = some f → P.underlying f.type = some (.int .i64) := by
  intro i f hi
  have hlt : i < fs.size := (Array.getElem?_eq_some_iff.1 hi).1
  have z := List.all_eq_true.1 h i (List.mem_range.2 hlt)
  simp only [hi] at z
  split at z
  · assumption
  · cases z
section
variable {H : Type} {enc : TypeId × Value → H} {P : Program} {w : World} {base : Nat} {spare : Nat → Bool} {held : Bool}
theorem open_rows {t e : TypeId} {fs : Array Field} {fuel : Nat} {v : Value} {x : DataW H × List MemPlace} (ht : P.underlying t = some (.slice e)) (he : P.underlying e = some (.struct fs))
    (hone : oneCellFields P fs = true) (hint : allInts P fs = true) (hC : P.cellsOf e = fs.size) (h : DataW.trod enc P w base spare held fuel t [v] = some x) :
    ∃ (A : Option Addr) (len cap : Nat) (X : Nat → Nat → Int), v = .slice A len cap ∧ len ≤ cap ∧ cap ≤ maxLen ∧
      (0 < len → ∃ ad, A = some ad ∧ ∀ i, i < len → ∀ j, j < fs.size → w.cell? (ad.add (i * fs.size + j)) = some (.int .i64 (X i j)) ∧ (Lit.int .i64 (X i j)).wf = true) := by
  rcases open_slice ht h with ⟨hcs, _⟩ | ⟨a, len, cap, m, n, D, Pl, hcs, _, hl, hm, hmm, _, hi⟩
  · simp only [List.cons.injEq, and_true] at hcs
    exact ⟨none, 0, 0, fun _ _ => 0, hcs, Nat.le_refl _, Nat.zero_le _, fun hp => absurd hp (Nat.lt_irrefl 0)⟩
  · simp only [List.cons.injEq, and_true] at hcs
    have hmle : len ≤ m := by rw [hmm]; split <;> omega
    have key : ∀ i, i < len → ∃ f : Nat → Int, ∀ j, j < fs.size → w.cell? (a.add (i * fs.size + j)) = some (.int .i64 (f j)) ∧ (Lit.int .i64 (f j)).wf = true := by
      intro i him
      obtain ⟨cs', hc, ht'⟩ := hi i (by omega)
      rw [hC] at hc
      obtain ⟨ys, n', hn', hy, hlen, hyl, hf⟩ := DataW.trod_struct he ht'
      obtain ⟨_, hcl, hat⟩ := World.cells?_some hc
      refine choose_lt (α := Int) (n := fs.size) (p := fun j q => w.cell? (a.add (i * fs.size + j)) = some (.int .i64 q) ∧ (Lit.int .i64 q).wf = true) fun j hj => ?_
      have hfj : fs[j]? = some fs[j] := Array.getElem?_eq_getElem hj
      obtain ⟨ho, hk⟩ := hone_of hone j _ hfj
      have h1 := hf j _ hfj
      rw [ho, hk, take1_drop cs' j undef (by omega)] at h1
      have hys : ys[j]? = some (ys[j]'(by omega)) := List.getElem?_eq_getElem (by omega)
      rw [hys] at h1
      obtain ⟨q, hq, _, hwf⟩ := DataW.trod_int (allInts_of hint j _ hfj) h1
      simp only [List.cons.injEq, and_true] at hq
      have hcell := hat j (by omega)
      rw [List.getElem?_eq_getElem (by omega)] at hcell
      have hgd : cs'.getD j undef = cs'[j]'(by omega) := by
        rw [List.getD_eq_getElem?_getD, List.getElem?_eq_getElem (by omega), Option.getD_some]
      rw [hgd] at hq
      exact ⟨q, by rw [← Go.Deep.add_add, hcell, hq], hwf⟩
    obtain ⟨X, hX⟩ := choose_lt (α := Nat → Int) (n := len) (p := fun i f => ∀ j, j < fs.size → w.cell? (a.add (i * fs.size + j)) = some (.int .i64 (f j)) ∧ (Lit.int .i64 (f j)).wf = true) key
    exact ⟨some a, len, cap, X, hcs, hl, hm, fun _ => ⟨a, rfl, fun i him => hX i him⟩⟩
end
theorem getD_range {α : Type} (n : Nat) (f : Nat → α) (i : Nat) (p : α) (h : ((List.range n).map f)[i]? = some p) : i < n ∧ p = f i := by
  have hi := (List.getElem?_eq_some_iff.1 h).1
  simp only [List.length_map, List.length_range] at hi
  refine ⟨hi, ?_⟩
  rw [List.getElem?_map, List.getElem?_range hi] at h
  simpa using h.symm
theorem mem_map_range {α : Type} {n : Nat} {f : Nat → α} {x : α} (h : x ∈ (List.range n).map f) : ∃ i, i < n ∧ x = f i := by
  obtain ⟨i, hi, rfl⟩ := List.mem_map.1 h
  exact ⟨i, List.mem_range.1 hi, rfl⟩
end Go.Proofs.Ytomanpmffjkkgaa.RS
namespace Go.Proofs.Ytomanpmffjkkgaa.RT
open Go Go.RowKit Go.Proofs.Ytomanpmffjkkgaa.P Go.Proofs.YtomanpmffjkkgaaW.PrintWords Go.Proofs.YtomanpmffjkkgaaW.PrintLast
theorem row34 {W : World} {A : Option Addr} {len : Nat} {X : Nat → Nat → Int} (hm : len ≤ maxLen) (hx : 0 < len → ∃ ad, A = some ad ∧ ∀ i, i < len → ∀ j, j < 5 → W.cell? (ad.add (i * 5 + j)) = some (.int .i64 (X i j)) ∧ (Lit.int .i64 (X i j)).wf = true) :
    ∃ l : List S34, len = l.length ∧ Kd.C k34 W A l.length l ∧ ∀ x ∈ l, (Lit.int .i64 x.f0).wf = true ∧ (Lit.int .i64 x.f1).wf = true ∧ (Lit.int .i64 x.f2).wf = true ∧ (Lit.int .i64 x.f3).wf = true ∧ (Lit.int .i64 x.f4).wf = true := by
  refine ⟨(List.range len).map fun i => (⟨X i 0, X i 1, X i 2, X i 3, X i 4⟩ : S34), by simp, ⟨rfl, by simp only [List.length_map, List.length_range]; exact hm, fun hn => ?_⟩, fun x hxm => ?_⟩
  · obtain ⟨ad, e, hc⟩ := hx (by simpa using hn)
    refine ⟨ad, e, fun j p hj => ⟨_, rfl, k34_mk W p, fun i u hu => ?_⟩⟩
    obtain ⟨hjl, rfl⟩ := RS.getD_range _ _ _ _ hj
    have hi : i < 5 := (List.getElem?_eq_some_iff.1 hu).1
    have hcell := (hc j hjl i hi).1
    match i, hi, hu, hcell with
    | 0, _, hu, hcell => exact hcell.trans hu
    | 1, _, hu, hcell => exact hcell.trans hu
    | 2, _, hu, hcell => exact hcell.trans hu
    | 3, _, hu, hcell => exact hcell.trans hu
    | 4, _, hu, hcell => exact hcell.trans hu
  · obtain ⟨i, hi, rfl⟩ := RS.mem_map_range hxm
    obtain ⟨ad, e, hc⟩ := hx (by omega)
    exact ⟨(hc i hi 0 (by decide)).2, (hc i hi 1 (by decide)).2, (hc i hi 2 (by decide)).2, (hc i hi 3 (by decide)).2, (hc i hi 4 (by decide)).2⟩
end Go.Proofs.Ytomanpmffjkkgaa.RT
namespace Go.Proofs.Ytomanpmffjkkgaa.fnExactLotsCost
open Go.ChangeShapes Go.WideShapes Go.ChangeAt Go.RowKit Go.Proofs.YtomanpmffjkkgaaW.PrintWords
open Go.ChangeMaps (open_string shut_string)
set_option linter.unusedVariables false
theorem own : ownKnob Try.prog.godebug = none := by kernel_rfl
theorem laidOut : laidOutB Try.prog = true := by kernel_rfl
set_option maxRecDepth 100000 in
theorem lifted (os : Os) (started : os.Started) (H : Type) (enc : TypeId × Value → H) :
    ReturnsInHanded {} Try.checked os 5 .any (Rows.fnExactLotsCostSpec.pre6 enc Try.prog Try.f5 Rows.fnExactLotsCostRow.domain false) (Rows.fnExactLotsCostSpec.post enc Try.prog Try.f5 false true false false) := by
  refine returnsInHanded_of_change_sized (C := Try.checked) own started (by kernel_rfl) Try.func5
    (ChangeSpec.witness6 (enc := enc) (C := Try.checked) false ⟨#[], #[.slice none 0 0, .int .i64 0, .int .i64 0], []⟩ 8 (by kernel_rfl) (by kernel_rfl) (by kernel_rfl) (by kernel_rfl)) ?_
  intro W base args ds gs before hval0 hW hcnd hsz0 _
  have hsz : (DataW.weightsEach Try.prog (Try.f5.params.toList ++ Rows.fnExactLotsCostSpec.plain.varTypes Try.prog) (ds ++ gs)).all (· ≤ reachBytes) = true := hsz0
  have hval : ∀ (j : Nat) t v, Try.f5.params[j]? = some t → args[j]? = some v → Value.okWide Try.prog W .any base t v := hval0
  have hW' := hW
  obtain ⟨p, q, hA0, hV, rfl, hfz, hnd⟩ := hW
  have hA : DataW.TrodAll enc Try.prog W 0 (fun _ => true) true Try.f5.params.toList args.toList ds p := hA0
  rw [Try.params5] at hA hval hsz
  obtain ⟨v0, vs0, d0, ds0, p0, q0, hargs, rfl, rfl, h0, r0⟩ := trodAll_cons hA
  obtain ⟨v1, vs1, d1, ds1, p1, q1, rfl, rfl, rfl, h1, r1⟩ := trodAll_cons r0
  obtain ⟨v2, vs2, d2, ds2, p2, q2, rfl, rfl, rfl, h2, r2⟩ := trodAll_cons r1
  obtain ⟨rfl, rfl, rfl⟩ := trodAll_nil r2
  obtain rfl : args = #[v0, v1, v2] := by cases args; simp_all
  obtain ⟨rfl, rfl⟩ := trodVars_none hV
  obtain ⟨a0, len0, cap0, rfl⟩ := okWide_slice Try.underlying22 (hval 0 22 v0 rfl rfl)
  have k0 := h0
  have lt0 : ∀ x ∈ p0, x.block < W.heap.size := by obtain ⟨m, hm⟩ := k0; exact DataW.trod_lt m _ _ _ hm
  obtain ⟨fu0, hf0⟩ := h0
  obtain ⟨A0, n0, c0, X0, hv0, hl0, hm0, hx0⟩ := RS.open_rows Try.underlying22 Try.underlying34 (by kernel_rfl) (by kernel_rfl) (by kernel_rfl) (v := .slice a0 len0 cap0) hf0
  obtain ⟨rfl, rfl, rfl⟩ := Value.slice.inj hv0
  obtain ⟨l0, e0, hr0, hw0⟩ := RT.row34 (Nat.le_trans hl0 hm0) hx0
  subst e0
  obtain ⟨a1, rfl, rfl, rfl, w1⟩ := open_int Try.underlying3 (hval 1 3 v1 rfl rfl) h1
  obtain ⟨a2, rfl, rfl, rfl, w2⟩ := open_int Try.underlying3 (hval 2 3 v2 rfl rfl) h2
  clear hA0 hval0 hsz0 hsz
  obtain ⟨k, hpure⟩ := Pure.FnExactLotsCost l0 a1 a2 (Kd.C_max hr0) hw0 w1 w2
  refine (P.laws_FnExactLotsCost.calls k _ _ l0 a1 a2 true W hr0 hl0 hpure).mono fun e W' hpost => ?_
  obtain ⟨he, hd⟩ := hpost
  have bel : Below W.heap.size W W' := hd
  subst he
  exact ⟨_, rfl, _, _, _, [], _, [], hW', trodAll_mk1 (shut_bool Try.underlying4 _), (trodAll_cons_mk (Below.trod laidOut (by kernel_rfl) (of_decide_eq_true (by kernel_rfl)) k0 bel lt0) (trodAll_cons_mk (shut_int Try.underlying3 w1) (trodAll_cons_mk (shut_int Try.underlying3 w2) trodAll_mk0))), rfl, bel.frame _, fun h => by cases h⟩
theorem over : Rows.fnExactLotsCostRow.holds Try.pinned (OpenSpec.ofChange Rows.fnExactLotsCostSpec) :=
  OpenClaim.holds_of_wide 5 Try.f5 rfl rfl rfl rfl rfl rfl rfl ⟨rfl, rfl, rfl, rfl, rfl⟩ rfl rfl rfl rfl rfl (by kernel_rfl) Try.func5 (by kernel_rfl)
    (of_decide_eq_true (by kernel_rfl)) (by unfold Func.isWrapper; first | (rw [if_pos (by decide +kernel)]; kernel_rfl) | (rw [if_neg (by decide +kernel)]; exact ⟨rfl, rfl⟩))
    (fun os started H enc _ => lifted os started H enc)
theorem proved : Rows.FnExactLotsCostSaid := over
#print axioms proved
end Go.Proofs.Ytomanpmffjkkgaa.fnExactLotsCost
namespace Go.Proofs.Ytomanpmffjkkgaa
theorem fnExactLotsCost_holds : Rows.FnExactLotsCostSaid := fnExactLotsCost.proved
end Go.Proofs.Ytomanpmffjkkgaa
