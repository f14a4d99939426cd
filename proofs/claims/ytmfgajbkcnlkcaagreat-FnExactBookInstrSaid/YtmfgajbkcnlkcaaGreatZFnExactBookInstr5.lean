/- BookInstr of the program and of the reference agree at all books, numbers and kinds; no condition but that they are ints. -/
import Derived.Test.YtmfgajbkcnlkcaaGreatZFnExactBookInstr4
import Derived.Deep.Slices
import Derived.Deep.Fields
import Derived.ChangeSame
import Derived.ChangeShapes
import Derived.WideShapes
import Derived.SizedLaws
import Derived.Test.YtmfgajbkcnlkcaaGreatRows
import Derived.WalkKit
import Derived.ProofKit
import Derived.OpenShut
import Derived.ShutString
import Derived.ChangeOld
import Derived.Below
import Derived.Carry
namespace Go.Proofs.YtmfgajbkcnlkcaaGreat.P
end Go.Proofs.YtmfgajbkcnlkcaaGreat.P
namespace Go.Proofs.YtmfgajbkcnlkcaaGreat.EV
end Go.Proofs.YtmfgajbkcnlkcaaGreat.EV
namespace Go.Proofs.YtmfgajbkcnlkcaaGreat.I1
end Go.Proofs.YtmfgajbkcnlkcaaGreat.I1
namespace Go.Proofs.YtmfgajbkcnlkcaaGreat.C1
end Go.Proofs.YtmfgajbkcnlkcaaGreat.C1
namespace Go.Proofs.YtmfgajbkcnlkcaaGreat.C2
end Go.Proofs.YtmfgajbkcnlkcaaGreat.C2
namespace Go.Proofs.YtmfgajbkcnlkcaaGreat.P1
end Go.Proofs.YtmfgajbkcnlkcaaGreat.P1
namespace Go.Proofs.YtmfgajbkcnlkcaaGreat.T1
end Go.Proofs.YtmfgajbkcnlkcaaGreat.T1
namespace Go.Proofs.YtmfgajbkcnlkcaaGreat.T2
end Go.Proofs.YtmfgajbkcnlkcaaGreat.T2
namespace Go.Proofs.YtmfgajbkcnlkcaaGreat.K1
end Go.Proofs.YtmfgajbkcnlkcaaGreat.K1
namespace Go.Proofs.YtmfgajbkcnlkcaaGreat.BK
end Go.Proofs.YtmfgajbkcnlkcaaGreat.BK
namespace Go.Proofs.YtmfgajbkcnlkcaaGreat.BC
end Go.Proofs.YtmfgajbkcnlkcaaGreat.BC
namespace Go.Proofs.YtmfgajbkcnlkcaaGreat.BA
end Go.Proofs.YtmfgajbkcnlkcaaGreat.BA
namespace Go.Proofs.YtmfgajbkcnlkcaaGreat.P1
open Go Go.RowKit Go.Proofs.YtmfgajbkcnlkcaaGreat.P Go.Proofs.YtmfgajbkcnlkcaaGreatW.PrintWords Go.Proofs.YtmfgajbkcnlkcaaGreatW.PrintLast Go.Proofs.YtmfgajbkcnlkcaaGreat.EV Go.Proofs.YtmfgajbkcnlkcaaGreat.I1 Go.Proofs.YtmfgajbkcnlkcaaGreat.C1
theorem take_getD {α : Type} (z : α) (l : List α) (i : Nat) (h : i < l.length) : l.take (i + 1) = l.take i ++ [l.getD i z] := by
  rw [List.take_add_one, List.getD_eq_getElem?_getD, List.getElem?_eq_getElem h]
  rfl
def posI : List S84 → Int → Nat
  | [], _ => 0
  | x :: l, no => if x.f0 < no then posI l no + 1 else 0
theorem posI_le : ∀ (l : List S84) (no : Int), posI l no ≤ l.length
  | [], _ => Nat.le_refl 0
  | x :: l, no => by
    have := posI_le l no
    unfold posI
    rw [List.length_cons]
    split <;> omega
theorem posI_lt : ∀ (l : List S84) (no : Int) (i : Nat), i < posI l no → (l.getD i z84).f0 < no
  | [], _, i, h => absurd h (Nat.not_lt_zero _)
  | x :: l, no, i, h => by
    unfold posI at h
    split at h
    · rename_i hx
      cases i with
      | zero => exact hx
      | succ i => exact posI_lt l no i (by omega)
    · exact absurd h (Nat.not_lt_zero _)
theorem posI_at : ∀ (l : List S84) (no : Int), posI l no < l.length → ¬ (l.getD (posI l no) z84).f0 < no
  | [], _, h => absurd h (Nat.not_lt_zero _)
  | x :: l, no, h => by
    unfold posI at h ⊢
    split
    · rename_i hx
      rw [if_pos hx, List.length_cons] at h
      exact posI_at l no (by omega)
    · rename_i hx
      exact hx
def insI (l : List S84) (a : S84) : List S84 := l.take (posI l a.f0) ++ [a] ++ l.drop (posI l a.f0)
theorem insI_len (l : List S84) (a : S84) : (insI l a).length = l.length + 1 := by
  have := posI_le l a.f0
  unfold insI
  simp
  omega
noncomputable def putI (l : List S84) (a : S84) : List S84 × Bool := if okI l = true then (if okI (insI l a) = true then (insI l a, true) else (l, false)) else ([], false)
theorem putI_i (l : List S84) (a : S84) (hm : l.length ≤ 1048576) : Ev (fun k => impl_InstrPut.f k l a.f0 a.f1) (putI l a) := by
  unfold impl_InstrPut.f putI
  refine Ev_bind (instrsOk_i l (by omega)) ?_
  cases okI l with
  | false => exact Ev_all_k fun k => by rw [if_neg (by decide), if_neg (by decide)]
  | true =>
    refine Ev.congr (fun k => if_pos rfl) ?_
    rw [if_pos rfl]
    have hp := posI_le l a.f0
    have hcl : ∀ x : List S84, x.length ≤ 1048577 → impl_Instr_98.f x = some x := fun x hx => by
      unfold impl_Instr_98.f
      rw [Option.bind_some, List.length_nil, if_pos (by omega), List.nil_append]
    have hend : Ev (fun k => impl_InstrPut.j1 k l ((posI l a.f0 : Nat) : Int) a.f0 a.f1) (if okI (insI l a) = true then (insI l a, true) else (l, false)) := by
      refine Ev.step (f := fun k => (impl_InstrsOk.f k (insI l a)).bind fun t => (if t = true then (some (insI l a, true)) else (some (l, false)))) (fun k => ?_) ?_
      · simp only [impl_InstrPut.j1]
        rw [hcl l (by omega), Option.bind_some]
        unfold impl_Instr_111.f
        rw [if_pos ⟨by omega, by omega, rfl, by omega⟩, Option.bind_some, Int.toNat_natCast]
        rfl
      · refine Ev_bind (instrsOk_i _ (by rw [insI_len]; omega)) ?_
        exact Ev_all_k fun k => by cases okI (insI l a) <;> rfl
    exact Ev_goes (fun k (_ : Unit) i => impl_InstrPut.l0 k l i a.f0 a.f1) (posI l a.f0) (fun _ _ => if okI (insI l a) = true then (insI l a, true) else (l, false)) (fun _ _ => True)
      (fun s _ => by
        refine Ev.step (f := fun k => impl_InstrPut.j1 k l ((posI l a.f0 : Nat) : Int) a.f0 a.f1) (fun k => ?_) hend
        show impl_InstrPut.l0 (k + 1) l _ a.f0 a.f1 = _
        simp only [impl_InstrPut.l0]
        by_cases h : posI l a.f0 < l.length
        · rw [if_pos (by omega), if_pos (by omega), rdI, if_neg (posI_at l a.f0 h)]
        · rw [if_neg (by omega)])
      (fun i s hi _ => .inr ⟨(), trivial, rfl, fun k => by
        show impl_InstrPut.l0 (k + 1) l (i : Int) a.f0 a.f1 = _
        simp only [impl_InstrPut.l0]
        rw [if_pos (by omega), if_pos (by omega), rdI, if_pos (posI_lt l a.f0 i hi), w_succ (n := l.length) (by omega) (by omega)]⟩) (posI l a.f0) 0 () (by omega) (by omega) trivial
theorem putI_s (l : List S84) (a : S84) (hm : l.length ≤ 1048576) : Ev (fun k => spec_InstrPut.f k l a.f0 a.f1) (putI l a) := by
  unfold spec_InstrPut.f putI
  refine Ev_bind (instrsOk_s l) ?_
  cases okI l with
  | false => exact Ev_all_k fun k => by rw [if_neg (by decide), if_neg (by decide)]
  | true =>
    refine Ev.congr (fun k => if_pos rfl) ?_
    rw [if_pos rfl]
    have hp := posI_le l a.f0
    exact Ev_goes (fun k (s : List S84 × Bool) i => spec_InstrPut.l0 k l s.1 s.2 i a.f0 a.f1) l.length (fun _ _ => if okI (insI l a) = true then (insI l a, true) else (l, false))
      (fun i s => s = if i ≤ posI l a.f0 then (l.take i, false) else (l.take (posI l a.f0) ++ [a] ++ (l.drop (posI l a.f0)).take (i - posI l a.f0), true))
      (fun s hs => by
        by_cases h : l.length ≤ posI l a.f0
        · rw [if_pos h] at hs
          subst hs
          have e : insI l a = l ++ [a] := by
            unfold insI
            rw [show posI l a.f0 = l.length by omega, List.take_length, List.drop_length, List.append_nil]
          refine Ev.step (f := fun k => (spec_InstrsOk.f k (insI l a)).bind fun t => (if t = true then (some (insI l a, true)) else (some (l, false)))) (fun k => ?_) (Ev_bind (instrsOk_s _) (Ev_all_k fun k => by cases okI (insI l a) <;> rfl))
          show spec_InstrPut.l0 (k + 1) l (l.take l.length) false (l.length : Int) a.f0 a.f1 = _
          rw [List.take_length]
          simp only [spec_InstrPut.l0]
          rw [if_neg (by omega), if_neg (by decide), if_pos (by omega), Option.bind_some]
          simp only [Option.bind_some, List.length_nil, List.nil_append]
          rw [if_pos (show 0 + l.length < 8796093022208 by omega), e]
        · rw [if_neg h] at hs
          subst hs
          have e : l.take (posI l a.f0) ++ [a] ++ (l.drop (posI l a.f0)).take (l.length - posI l a.f0) = insI l a := by
            unfold insI
            rw [List.take_of_length_le (l := l.drop (posI l a.f0)) (by rw [List.length_drop]; exact Nat.le_refl _)]
          refine Ev.step (f := fun k => (spec_InstrsOk.f k (insI l a)).bind fun t => (if t = true then (some (insI l a, true)) else (some (l, false)))) (fun k => ?_) (Ev_bind (instrsOk_s _) (Ev_all_k fun k => by cases okI (insI l a) <;> rfl))
          show spec_InstrPut.l0 (k + 1) l (l.take (posI l a.f0) ++ [a] ++ (l.drop (posI l a.f0)).take (l.length - posI l a.f0)) true (l.length : Int) a.f0 a.f1 = _
          rw [e]
          simp only [spec_InstrPut.l0]
          rw [if_neg (by omega), if_pos trivial]
          simp only [Option.bind_some, List.length_nil, List.nil_append]
          rw [if_pos (show 0 + l.length < 8796093022208 by omega)])
      (fun i s hi hs => by
        refine .inr ⟨_, rfl, rfl, fun k => ?_⟩
        by_cases h1 : i < posI l a.f0
        · rw [if_pos (by omega)] at hs
          subst hs
          rw [if_pos (by omega), take_getD z84 l i hi]
          show spec_InstrPut.l0 (k + 1) l (l.take i) false (i : Int) a.f0 a.f1 = _
          have := posI_lt l a.f0 i h1
          simp only [spec_InstrPut.l0]
          rw [if_pos (by omega), if_neg (by decide), if_pos (by omega), rdI, if_neg (by omega), if_pos (by rw [List.length_take]; omega), w_succ hi (by omega)]
        · by_cases h2 : i = posI l a.f0
          · rw [if_pos (by omega)] at hs
            subst hs
            have h3 := posI_at l a.f0 (by omega)
            rw [← h2] at h3
            rw [if_neg (by omega), ← h2, show i + 1 - i = 0 + 1 by omega, drop_getD z84 l i hi, List.take_succ_cons, List.take_zero]
            show spec_InstrPut.l0 (k + 1) l (l.take i) false (i : Int) a.f0 a.f1 = _
            simp only [spec_InstrPut.l0]
            rw [if_pos (by omega), if_neg (by decide), if_pos (by omega), rdI, if_pos (by omega), if_pos (by rw [List.length_take]; omega), Option.bind_some, if_pos (by simp; omega), w_succ hi (by omega)]
          · rw [if_neg (by omega)] at hs
            subst hs
            have hg : ((l.drop (posI l a.f0)).take (i + 1 - posI l a.f0)) = (l.drop (posI l a.f0)).take (i - posI l a.f0) ++ [l.getD i z84] := by
              rw [show i + 1 - posI l a.f0 = (i - posI l a.f0) + 1 by omega, take_getD z84 _ _ (by rw [List.length_drop]; omega)]
              congr 2
              rw [List.getD_eq_getElem?_getD, List.getElem?_drop, List.getD_eq_getElem?_getD]
              congr 2
              omega
            rw [if_neg (by omega), hg]
            show spec_InstrPut.l0 (k + 1) l (l.take (posI l a.f0) ++ [a] ++ (l.drop (posI l a.f0)).take (i - posI l a.f0)) true (i : Int) a.f0 a.f1 = _
            simp only [spec_InstrPut.l0]
            rw [if_pos (by omega), if_pos trivial, if_pos (by omega), if_pos (by simp; omega), rdI, w_succ hi (by omega), List.append_assoc _ _ [l.getD i z84]]) l.length 0 ([], false) (by omega) (by omega) (by rw [if_pos (by omega)]; rfl)
end Go.Proofs.YtmfgajbkcnlkcaaGreat.P1
namespace Go.Proofs.YtmfgajbkcnlkcaaGreat.BA
open Go Go.RowKit Go.Proofs.YtmfgajbkcnlkcaaGreat.P Go.Proofs.YtmfgajbkcnlkcaaGreatW.PrintWords Go.Proofs.YtmfgajbkcnlkcaaGreatW.PrintLast Go.Proofs.YtmfgajbkcnlkcaaGreat.EV Go.Proofs.YtmfgajbkcnlkcaaGreat.I1 Go.Proofs.YtmfgajbkcnlkcaaGreat.C1 Go.Proofs.YtmfgajbkcnlkcaaGreat.C2 Go.Proofs.YtmfgajbkcnlkcaaGreat.P1
theorem insI_at (l : List S84) (a : S84) (j : Nat) : (insI l a).getD j z84 = if j < posI l a.f0 then l.getD j z84 else if j = posI l a.f0 then a else l.getD (j - 1) z84 := by
  have hp := posI_le l a.f0
  have ht : (l.take (posI l a.f0)).length = posI l a.f0 := by rw [List.length_take]; omega
  unfold insI
  rw [List.append_assoc, List.getD_eq_getElem?_getD, List.getElem?_append, ht]
  by_cases h : j < posI l a.f0
  · rw [if_pos h, if_pos h, List.getElem?_take, if_pos h, List.getD_eq_getElem?_getD]
  · rw [if_neg h, if_neg h]
    by_cases e : j = posI l a.f0
    · rw [if_pos e, e, Nat.sub_self]; rfl
    · rw [if_neg e]
      obtain ⟨d, hd⟩ : ∃ d, j - posI l a.f0 = d + 1 := ⟨j - posI l a.f0 - 1, by omega⟩
      rw [hd, List.singleton_append, List.getElem?_cons_succ, List.getElem?_drop, List.getD_eq_getElem?_getD]
      congr 2; omega
theorem kindI_ge : ∀ (l : List S84) (no : Int), (∀ x ∈ l, 1 ≤ x.f1) → kindI l no = 0 ∧ (∀ x ∈ l, x.f0 ≠ no) ∨ 1 ≤ kindI l no
  | [], _, _ => .inl ⟨rfl, fun _ h => by cases h⟩
  | x :: l, no, h => by
    unfold kindI
    by_cases e : x.f0 = no
    · rw [if_pos e]; exact .inr (h x (List.mem_cons_self ..))
    · rw [if_neg e]
      rcases kindI_ge l no fun y hy => h y (List.mem_cons_of_mem _ hy) with ⟨h0, h1⟩ | h1
      · refine .inl ⟨h0, fun y hy => ?_⟩
        rcases List.mem_cons.1 hy with rfl | hy
        · exact e
        · exact h1 y hy
      · exact .inr h1
theorem okI_kinds {l : List S84} (h : okI l = true) : ∀ x ∈ l, 1 ≤ x.f1 := fun x hx => by
  obtain ⟨j, hj, e⟩ := List.mem_iff_getElem.1 hx
  have g := (((okI_iff l).1 h).2 j hj).2.1.1
  rwa [List.getD_eq_getElem?_getD, List.getElem?_eq_getElem hj, Option.getD_some, e] at g
theorem okI_ins {l : List S84} {a : S84} (h : okI l = true) (hn : 1 ≤ a.f0 ∧ a.f0 ≤ 1000) (hk : 1 ≤ a.f1 ∧ a.f1 ≤ 2) (h0 : ∀ x ∈ l, x.f0 ≠ a.f0) : okI (insI l a) = true ↔ l.length < 8 := by
  obtain ⟨hl, hg⟩ := (okI_iff l).1 h
  rw [okI_iff]
  unfold OkI
  rw [insI_len]
  refine ⟨fun g => by omega, fun g => ⟨by omega, fun j hj => ?_⟩⟩
  have hp := posI_le l a.f0
  have at_ : ∀ i, i < l.length → (l.getD i z84).f0 ≠ a.f0 := fun i hi => by
    rw [List.getD_eq_getElem?_getD, List.getElem?_eq_getElem hi, Option.getD_some]
    exact h0 _ (List.getElem_mem hi)
  unfold GoodI
  rw [insI_at, insI_at]
  by_cases c : j < posI l a.f0
  · rw [if_pos c, if_pos (by omega)]
    exact hg j (by omega)
  · rw [if_neg c]
    by_cases e : j = posI l a.f0
    · rw [if_pos e]
      refine ⟨hn, hk, fun q => ?_⟩
      rw [if_pos (by omega)]
      exact posI_lt l a.f0 (j - 1) (by omega)
    · rw [if_neg e]
      obtain ⟨g1, g2, g3⟩ := hg (j - 1) (by omega)
      refine ⟨g1, g2, fun q => ?_⟩
      rw [if_neg (by omega)]
      by_cases e2 : j - 1 = posI l a.f0
      · rw [if_pos e2]
        have n1 := posI_at l a.f0 (by omega)
        have n2 := at_ (posI l a.f0) (by omega)
        rw [e2]; omega
      · rw [if_neg e2]
        exact g3 (by omega)
end Go.Proofs.YtmfgajbkcnlkcaaGreat.BA
namespace Go.Proofs.YtmfgajbkcnlkcaaGreat.Pure
open Go Go.RowKit Go.Proofs.YtmfgajbkcnlkcaaGreat.P Go.Proofs.YtmfgajbkcnlkcaaGreatW.PrintWords Go.Proofs.YtmfgajbkcnlkcaaGreatW.PrintLast Go.Proofs.YtmfgajbkcnlkcaaGreat.EV Go.Proofs.YtmfgajbkcnlkcaaGreat.T1 Go.Proofs.YtmfgajbkcnlkcaaGreat.T2 Go.Proofs.YtmfgajbkcnlkcaaGreat.K1 Go.Proofs.YtmfgajbkcnlkcaaGreat.BK Go.Proofs.YtmfgajbkcnlkcaaGreat.BC Go.Proofs.YtmfgajbkcnlkcaaGreat.I1 Go.Proofs.YtmfgajbkcnlkcaaGreat.C1 Go.Proofs.YtmfgajbkcnlkcaaGreat.C2 Go.Proofs.YtmfgajbkcnlkcaaGreat.P1 Go.Proofs.YtmfgajbkcnlkcaaGreat.BA
theorem putI_len (l : LI) (a : S84) : (putI l a).1.length ≤ l.length + 1 := by
  unfold putI
  split
  · split
    · exact Nat.le_of_eq (insI_len l a)
    · exact Nat.le_succ _
  · exact Nat.zero_le _
theorem instr_both (A : LA) (I : LI) (B : LB) (L : LL) (T : LT) (d a b : Int) (mA : A.length ≤ 1048576) (mI : I.length ≤ 1048576) (mB : B.length ≤ 1048576) (mL : L.length ≤ 1048576) (mT : T.length ≤ 1048576) :
    ∃ r : LA × LI × LB × LL × LT × Int × Int, Ev (fun k => spec_BookInstr.f k A I B L T d a b) r ∧ Ev (fun k => impl_BookInstr.f k A I B L T d a b) r ∧ Short (r.1, r.2.1, r.2.2.1, r.2.2.2.1, r.2.2.2.2.1, r.2.2.2.2.2.1) := by
  unfold spec_BookInstr.f impl_BookInstr.f
  have jS : Ev (fun k => spec_BookInstr.j0 k a b true A I B L T d) ([], [], [], [], [], 0, 1) := Ev_one fun k => by simp only [spec_BookInstr.j0]; rw [if_pos trivial]
  have z0 : Short ([], [], [], [], [], 0) := ⟨by simp, by simp, by simp, by simp, by simp⟩
  have sh : ∀ I' : LI, I'.length ≤ 1048577 → Short (A, I', B, L, T, d) := fun I' h => ⟨by dsimp only; omega, h, by dsimp only; omega, by dsimp only; omega, by dsimp only; omega⟩
  obtain ⟨r, bS, bI, ht⟩ := books_all A I B L T d mA mI mB mL mT
  cases r with
  | false => exact ⟨_, Ev_bind bS (Ev.congr (fun k => if_neg (by decide)) jS), Ev_bind bI (Ev_all_k fun k => if_neg (by decide)), z0⟩
  | true =>
    have ok := (ht rfl).2.1
    by_cases hn : F1.No a
    · have nS : Ev (fun _ => spec_l3No.f a) true := Ev_all_k fun _ => by rw [F1.no_s, decide_eq_true hn]
      have nI : Ev (fun _ => impl_isNo.f a) true := Ev_all_k fun _ => by rw [F1.no_i, decide_eq_true hn]
      by_cases hk : 1 ≤ b ∧ b ≤ 2
      · have iS : Ev (fun _ => spec_l1In.f b 1 2) true := Ev_all_k fun _ => by rw [I1.in_s, decide_eq_true hk]
        have iI : Ev (fun _ => impl_in.f b 1 2) true := Ev_all_k fun _ => by rw [I1.in_i, decide_eq_true hk]
        have cI : Ev (fun _ => impl_cloneBooks.f A I B L T d) (A, I, B, L, T, d) := Ev_all_k fun _ => copy_i A I B L T d mA mI mB mL mT
        have eS : ∀ k, spec_BookInstr.j0 (k + 1) a b (!true) A I B L T d = (spec_InstrKind.f k I a).bind fun t => if t > 0 then some (A, I, B, L, T, d, 2) else (spec_InstrPut.f k I a b).bind fun p => if p.2 = true then some (A, p.1, B, L, T, d, 0) else some (A, I, B, L, T, d, 7) := fun k => by
          simp only [spec_BookInstr.j0]
          rw [if_neg (by decide), copy_s A I B L T d mA mI mB mL mT, Option.bind_some]
        have kS : Ev (fun k => spec_InstrKind.f k I a) (kindI I a) := by have := kindOkI_s I a (by omega); unfold kindOkI at this; rwa [if_pos ok] at this
        have kI := kindM_i I a (by omega)
        have pS := putI_s I ⟨a, b⟩ mI
        have pI := putI_i I ⟨a, b⟩ mI
        have hl := putI_len I ⟨a, b⟩
        have hr : kindI I a = 0 → (putI I ⟨a, b⟩).2 = true ∧ ¬ (I.length : Int) ≥ 8 ∨ ¬ (putI I ⟨a, b⟩).2 = true ∧ (I.length : Int) ≥ 8 := fun k0 => by
          rcases kindI_ge I a (okI_kinds ok) with ⟨_, kn⟩ | k1
          · have q := okI_ins (a := ⟨a, b⟩) ok hn hk kn
            unfold putI
            rw [if_pos ok]
            by_cases c : I.length < 8
            · rw [if_pos (q.2 c)]; exact .inl ⟨rfl, by omega⟩
            · rw [if_neg (fun g => c (q.1 g))]; exact .inr ⟨by simp, by omega⟩
          · omega
        have hge := kindI_ge I a (okI_kinds ok)
        generalize kindI I a = t at kS kI hr hge
        generalize putI I ⟨a, b⟩ = p at pS pI hl hr
        by_cases h0 : t = 0
        · rcases hr h0 with ⟨p1, p2⟩ | ⟨p1, p2⟩
          · exact ⟨(A, p.1, B, L, T, d, 0), Ev_bind bS (Ev.congr (fun k => if_pos rfl) (Ev_bind nS (Ev.congr (fun k => if_pos rfl) (Ev_bind iS (Ev.step eS (Ev_bind kS (Ev.congr (fun k => if_neg (by omega)) (Ev_bind pS (Ev_all_k fun k => if_pos p1))))))))), Ev_bind bI (Ev.congr (fun k => if_pos rfl) (Ev_bind nI (Ev.congr (fun k => if_pos rfl) (Ev_bind iI (Ev.congr (fun k => if_pos rfl) (Ev_bind cI (Ev_bind kI (Ev.congr (fun k => if_neg (by simp [h0])) (Ev.congr (fun k => if_neg p2) (Ev_bind pI (Ev_all_k fun k => rfl))))))))))), sh p.1 (by omega)⟩
          · exact ⟨(A, I, B, L, T, d, 7), Ev_bind bS (Ev.congr (fun k => if_pos rfl) (Ev_bind nS (Ev.congr (fun k => if_pos rfl) (Ev_bind iS (Ev.step eS (Ev_bind kS (Ev.congr (fun k => if_neg (by omega)) (Ev_bind pS (Ev_all_k fun k => if_neg p1))))))))), Ev_bind bI (Ev.congr (fun k => if_pos rfl) (Ev_bind nI (Ev.congr (fun k => if_pos rfl) (Ev_bind iI (Ev.congr (fun k => if_pos rfl) (Ev_bind cI (Ev_bind kI (Ev.congr (fun k => if_neg (by simp [h0])) (Ev_all_k fun k => if_pos p2))))))))), sh I (by omega)⟩
        · have h1 : t > 0 := by
            rcases hge with h | h
            · exact absurd h.1 h0
            · omega
          exact ⟨(A, I, B, L, T, d, 2), Ev_bind bS (Ev.congr (fun k => if_pos rfl) (Ev_bind nS (Ev.congr (fun k => if_pos rfl) (Ev_bind iS (Ev.step eS (Ev_bind kS (Ev_all_k fun k => if_pos h1))))))), Ev_bind bI (Ev.congr (fun k => if_pos rfl) (Ev_bind nI (Ev.congr (fun k => if_pos rfl) (Ev_bind iI (Ev.congr (fun k => if_pos rfl) (Ev_bind cI (Ev_bind kI (Ev_all_k fun k => if_pos (by simp [h0]))))))))), sh I (by omega)⟩
      · have iS : Ev (fun _ => spec_l1In.f b 1 2) false := Ev_all_k fun _ => by rw [I1.in_s, decide_eq_false hk]
        have iI : Ev (fun _ => impl_in.f b 1 2) false := Ev_all_k fun _ => by rw [I1.in_i, decide_eq_false hk]
        exact ⟨_, Ev_bind bS (Ev.congr (fun k => if_pos rfl) (Ev_bind nS (Ev.congr (fun k => if_pos rfl) (Ev_bind iS jS)))), Ev_bind bI (Ev.congr (fun k => if_pos rfl) (Ev_bind nI (Ev.congr (fun k => if_pos rfl) (Ev_bind iI (Ev_all_k fun k => if_neg (by decide)))))), z0⟩
    · have nS : Ev (fun _ => spec_l3No.f a) false := Ev_all_k fun _ => by rw [F1.no_s, decide_eq_false hn]
      have nI : Ev (fun _ => impl_isNo.f a) false := Ev_all_k fun _ => by rw [F1.no_i, decide_eq_false hn]
      exact ⟨_, Ev_bind bS (Ev.congr (fun k => if_pos rfl) (Ev_bind nS (Ev.congr (fun k => if_neg (by decide)) jS))), Ev_bind bI (Ev.congr (fun k => if_pos rfl) (Ev_bind nI (Ev_all_k fun k => if_neg (by decide)))), z0⟩
theorem FnExactBookInstr : ∀ (l0_0 : List (S103)) (l0_1 : List (S105)) (l0_2 : List (S108)) (l0_3 : List (S112)) (l0_4 : List (S114)) (a0_5 : Int) (a1 : Int) (a2 : Int), l0_0.length ≤ 9223372036854775807 → (∀ x ∈ l0_0, (Lit.int .i64 x.f0).wf = true ∧ (Lit.int .i64 x.f1).wf = true) → l0_1.length ≤ 9223372036854775807 → (∀ x ∈ l0_1, (Lit.int .i64 x.f0).wf = true ∧ (Lit.int .i64 x.f1).wf = true) → l0_2.length ≤ 9223372036854775807 → (∀ x ∈ l0_2, (Lit.int .i64 x.f0).wf = true ∧ (Lit.int .i64 x.f1).wf = true ∧ (Lit.int .i64 x.f2).wf = true) → l0_3.length ≤ 9223372036854775807 → (∀ x ∈ l0_3, (Lit.int .i64 x.f0).wf = true ∧ (Lit.int .i64 x.f1).wf = true ∧ (Lit.int .i64 x.f2).wf = true ∧ (Lit.int .i64 x.f3).wf = true ∧ (Lit.int .i64 x.f4).wf = true) → l0_4.length ≤ 9223372036854775807 → (∀ x ∈ l0_4, (Lit.int .i64 x.f0).wf = true ∧ (Lit.int .i64 x.f1).wf = true ∧ (Lit.int .i64 x.f2).wf = true ∧ (Lit.int .i64 x.f3).wf = true ∧ (Lit.int .i64 x.f4).wf = true ∧ (Lit.int .i64 x.f5).wf = true ∧ (Lit.int .i64 x.f6).wf = true ∧ (Lit.int .i64 x.f7).wf = true) → (Lit.int .i64 a0_5).wf = true → (Lit.int .i64 a1).wf = true → (Lit.int .i64 a2).wf = true → ∃ k, laws_FnExactBookInstr.f k l0_0 l0_1 l0_2 l0_3 l0_4 a0_5 a1 a2 = some true := by
  intro l0 l1 l2 l3 l4 d a1 a2 m0 _ m1 _ m2 _ m3 _ m4 _ _ _ _
  refine Ev.rounds ?_
  unfold laws_FnExactBookInstr.f
  rcases sz_Books l0 l1 l2 l3 l4 d m0 m1 m2 m3 m4 with ⟨n, hn, e⟩ | ⟨h0, h1, h2, h3, h4, n, hn, e⟩
  · exact Ev_all_k fun k => by rw [e, Option.bind_some, if_pos hn]
  have tb := to_Books l0 l1 l2 l3 l4 d h0 h1 h2 h3 h4
  have g0 : (l0.map cvAccount).length ≤ 1048576 := by rw [List.length_map]; exact h0
  have g1 : (l1.map cvInstr).length ≤ 1048576 := by rw [List.length_map]; exact h1
  have g2 : (l2.map cvBal).length ≤ 1048576 := by rw [List.length_map]; exact h2
  have g3 : (l3.map cvLot).length ≤ 1048576 := by rw [List.length_map]; exact h3
  have g4 : (l4.map cvTrade).length ≤ 1048576 := by rw [List.length_map]; exact h4
  have eb := eq_Books (l0.map cvAccount) (l1.map cvInstr) (l2.map cvBal) (l3.map cvLot) (l4.map cvTrade) d (by omega) (by omega) (by omega) (by omega) (by omega)
  obtain ⟨r, hS, hI, s0, s1, s2, s3, s4⟩ := instr_both (l0.map cvAccount) (l1.map cvInstr) (l2.map cvBal) (l3.map cvLot) (l4.map cvTrade) d a1 a2 g0 g1 g2 g3 g4
  have er := eq_Books r.1 r.2.1 r.2.2.1 r.2.2.2.1 r.2.2.2.2.1 r.2.2.2.2.2.1 (Nat.le_trans s0 (by decide)) (Nat.le_trans s1 (by decide)) (Nat.le_trans s2 (by decide)) (Nat.le_trans s3 (by decide)) (Nat.le_trans s4 (by decide))
  obtain ⟨u, u0, uM, _⟩ := mark_Books (l0.map cvAccount) (l1.map cvInstr) (l2.map cvBal) (l3.map cvLot) (l4.map cvTrade) d (by omega) (by omega) (by omega) (by omega) (by omega)
  obtain ⟨v, v0, vM, vH⟩ := mark_Books r.1 r.2.1 r.2.2.1 r.2.2.2.1 r.2.2.2.2.1 r.2.2.2.2.2.1 s0 s1 s2 s3 s4
  refine Ev.congr (fun k => by rw [e, Option.bind_some, if_neg (by omega)]) ?_
  exact Ev_bind tb (Ev_bind hS (Ev_bind tb (Ev_bind hI (Ev_bind er (Ev.congr (fun k => if_pos rfl) (Ev.congr (fun k => if_pos rfl) (Ev_bind tb (Ev_bind eb (Ev.congr (fun k => if_pos rfl) (Ev_bind uM (Ev.congr (fun k => if_neg (by omega)) (Ev_bind er (Ev.congr (fun k => if_pos rfl) (Ev.congr (fun k => if_pos rfl) (Ev_bind vM (Ev_bind vH (Ev.congr (fun k => if_neg (by omega)) (Ev.congr (fun k => if_pos rfl) (Ev_bind tb (Ev_bind hI (Ev_bind er (Ev.congr (fun k => if_pos rfl) (Ev.congr (fun k => if_pos rfl) (Ev_bind vH (Ev.congr (fun k => if_neg (by omega)) (Ev_all_k fun k => if_pos rfl))))))))))))))))))))))))))
end Go.Proofs.YtmfgajbkcnlkcaaGreat.Pure
namespace Go.Proofs.YtmfgajbkcnlkcaaGreat.RS
open Go Go.ChangeShapes Go.WideShapes Go.Deep Go.RowKit Go.Proofs.YtmfgajbkcnlkcaaGreatW.PrintWords
def allInts (P : Program) (fs : Array Field) : Bool := (List.range fs.size).all fun i => match fs[i]? with
  | some f => (match P.underlying f.type with | some (.int .i64) => true | _ => false)
  | none => false
theorem allInts_of {P : Program} {fs : Array Field} (h : allInts P fs = true) : ∀ (i : Nat) (f : Field), fs[i]? = some f → P.underlying f.type = some (.int .i64) := by
  intro i f hi
  have hlt : i < fs.size := (Array.getElem?_eq_some_iff.1 hi).1
  have z := List.all_eq_true.1 h i (List.mem_range.2 hlt)
  simp only [hi] at z
  split at z
  · assumption
  · cases z
section
variable {H : Type} {enc : TypeId × Value → H} {P : Program} {w : World} {base : Nat} {spare : Nat → Bool} {held : Bool}
theorem open_rows {t e : TypeId} {fs : Array Field} {fuel : Nat} {v : Value} {x : DataW H × List MemPlace} (ht : P.underlying t = some (.slice e)) (he : P.underlying e = some (.struct fs))
    (hone : oneCellFields P fs = true) (hint : allInts P fs = true) (hC : P.cellsOf e = fs.size) (h : DataW.trod enc P w base spare held fuel t [v] = some x) :
    ∃ (A : Option Addr) (len cap : Nat) (X : Nat → Nat → Int), v = .slice A len cap ∧ len ≤ cap ∧ cap ≤ maxLen ∧
      (0 < len → ∃ ad, A = some ad ∧ ∀ i, i < len → ∀ j, j < fs.size → w.cell? (ad.add (i * fs.size + j)) = some (.int .i64 (X i j)) ∧ (Lit.int .i64 (X i j)).wf = true) := by
  rcases open_slice ht h with ⟨hcs, _⟩ | ⟨a, len, cap, m, n, D, Pl, hcs, _, hl, hm, hmm, _, hi⟩
  · simp only [List.cons.injEq, and_true] at hcs
    exact ⟨none, 0, 0, fun _ _ => 0, hcs, Nat.le_refl _, Nat.zero_le _, fun hp => absurd hp (Nat.lt_irrefl 0)⟩
  · simp only [List.cons.injEq, and_true] at hcs
    have hmle : len ≤ m := by rw [hmm]; split <;> omega
    have key : ∀ i, i < len → ∃ f : Nat → Int, ∀ j, j < fs.size → w.cell? (a.add (i * fs.size + j)) = some (.int .i64 (f j)) ∧ (Lit.int .i64 (f j)).wf = true := by
      intro i him
      obtain ⟨cs', hc, ht'⟩ := hi i (by omega)
      rw [hC] at hc
      obtain ⟨ys, n', hn', hy, hlen, hyl, hf⟩ := DataW.trod_struct he ht'
      obtain ⟨_, hcl, hat⟩ := World.cells?_some hc
      refine choose_lt (α := Int) (n := fs.size) (p := fun j q => w.cell? (a.add (i * fs.size + j)) = some (.int .i64 q) ∧ (Lit.int .i64 q).wf = true) fun j hj => ?_
      have hfj : fs[j]? = some fs[j] := Array.getElem?_eq_getElem hj
      obtain ⟨ho, hk⟩ := hone_of hone j _ hfj
      have h1 := hf j _ hfj
      rw [ho, hk, take1_drop cs' j undef (by omega)] at h1
      have hys : ys[j]? = some (ys[j]'(by omega)) := List.getElem?_eq_getElem (by omega)
      rw [hys] at h1
      obtain ⟨q, hq, _, hwf⟩ := DataW.trod_int (allInts_of hint j _ hfj) h1
      simp only [List.cons.injEq, and_true] at hq
      have hcell := hat j (by omega)
      rw [List.getElem?_eq_getElem (by omega)] at hcell
      have hgd : cs'.getD j undef = cs'[j]'(by omega) := by
        rw [List.getD_eq_getElem?_getD, List.getElem?_eq_getElem (by omega), Option.getD_some]
      rw [hgd] at hq
      exact ⟨q, by rw [← Go.Deep.add_add, hcell, hq], hwf⟩
    obtain ⟨X, hX⟩ := choose_lt (α := Nat → Int) (n := len) (p := fun i f => ∀ j, j < fs.size → w.cell? (a.add (i * fs.size + j)) = some (.int .i64 (f j)) ∧ (Lit.int .i64 (f j)).wf = true) key
    exact ⟨some a, len, cap, X, hcs, hl, hm, fun _ => ⟨a, rfl, fun i him => hX i him⟩⟩
theorem open_val {r : Reach} {b0 : Nat} {t : TypeId} {fs : Array Field} {v : Value} {d : DataW H} {p : List MemPlace} (hs : P.underlying t = some (.struct fs)) (hone : oneCellFields P fs = true) (hC : P.cellsOf t = fs.size)
    (hv : Value.okWide P w r b0 t v) (h : DataW.Trod enc P w base spare held t v d p) :
    ∃ (cs : List Value) (n : Nat), v = .agg cs.toArray ∧ cs.length = fs.size ∧ ∀ (j : Nat) (f : Field), fs[j]? = some f → ∃ y, DataW.trod enc P w base spare held n f.type [cs.getD j undef] = some y := by
  obtain ⟨cs, rfl, hsz⟩ := okWide_struct hs hv
  obtain ⟨l⟩ := cs
  obtain ⟨fuel, hf⟩ := h
  obtain ⟨ys, n, _, _, _, hyl, hg⟩ := DataW.trod_struct hs hf
  have hl : l.length = fs.size := by rw [← hC]; exact hsz
  refine ⟨l, n, rfl, hl, fun j f hj => ?_⟩
  have hjl : j < fs.size := (Array.getElem?_eq_some_iff.1 hj).1
  obtain ⟨ho, hk⟩ := hone_of hone j f hj
  have h1 := hg j f hj
  have hcells : (Value.agg ⟨l⟩).cells.toList = l := rfl
  rw [ho, hk] at h1
  first | rw [hcells, take1_drop l j undef (by omega)] at h1 | rw [take1_drop l j undef (by omega)] at h1
  have hys : ys[j]? = some (ys[j]'(by omega)) := List.getElem?_eq_getElem (by omega)
  exact ⟨_, h1.trans hys⟩
theorem int_of {n : Nat} {t : TypeId} {v : Value} {x : DataW H × List MemPlace} (ht : P.underlying t = some (.int .i64)) (h : DataW.trod enc P w base spare held n t [v] = some x) : ∃ q : Int, v = .int .i64 q ∧ (Lit.int .i64 q).wf = true := by
  obtain ⟨q, hq, _, hw⟩ := DataW.trod_int ht h
  simp only [List.cons.injEq, and_true] at hq
  exact ⟨q, hq, hw⟩
end
theorem getD_range {α : Type} (n : Nat) (f : Nat → α) (i : Nat) (p : α) (h : ((List.range n).map f)[i]? = some p) : i < n ∧ p = f i := by
  have hi := (List.getElem?_eq_some_iff.1 h).1
  simp only [List.length_map, List.length_range] at hi
  refine ⟨hi, ?_⟩
  rw [List.getElem?_map, List.getElem?_range hi] at h
  simpa using h.symm
theorem mem_map_range {α : Type} {n : Nat} {f : Nat → α} {x : α} (h : x ∈ (List.range n).map f) : ∃ i, i < n ∧ x = f i := by
  obtain ⟨i, hi, rfl⟩ := List.mem_map.1 h
  exact ⟨i, List.mem_range.1 hi, rfl⟩
theorem len6 : ∀ {cs : List Value}, cs.length = 6 → ∃ x0 x1 x2 x3 x4 x5, cs = [x0, x1, x2, x3, x4, x5]
  | [x0, x1, x2, x3, x4, x5], _ => ⟨x0, x1, x2, x3, x4, x5, rfl⟩
end Go.Proofs.YtmfgajbkcnlkcaaGreat.RS
namespace Go.Proofs.YtmfgajbkcnlkcaaGreat.RT
open Go Go.RowKit Go.Proofs.YtmfgajbkcnlkcaaGreat.P Go.Proofs.YtmfgajbkcnlkcaaGreatW.PrintWords Go.Proofs.YtmfgajbkcnlkcaaGreatW.PrintLast
theorem row103 {W : World} {A : Option Addr} {len : Nat} {X : Nat → Nat → Int} (hm : len ≤ maxLen) (hx : 0 < len → ∃ ad, A = some ad ∧ ∀ i, i < len → ∀ j, j < 2 → W.cell? (ad.add (i * 2 + j)) = some (.int .i64 (X i j)) ∧ (Lit.int .i64 (X i j)).wf = true) :
    ∃ l : List S103, len = l.length ∧ Kd.C k103 W A l.length l ∧ ∀ x ∈ l, (Lit.int .i64 x.f0).wf = true ∧ (Lit.int .i64 x.f1).wf = true := by
  refine ⟨(List.range len).map fun i => (⟨X i 0, X i 1⟩ : S103), by simp, ⟨rfl, by simp only [List.length_map, List.length_range]; exact hm, fun hn => ?_⟩, fun x hxm => ?_⟩
  · obtain ⟨ad, e, hc⟩ := hx (by simpa using hn)
    refine ⟨ad, e, fun j p hj => ⟨_, rfl, k103_mk W p, fun i u hu => ?_⟩⟩
    obtain ⟨hjl, rfl⟩ := RS.getD_range _ _ _ _ hj
    have hi : i < 2 := (List.getElem?_eq_some_iff.1 hu).1
    have hcell := (hc j hjl i hi).1
    match i, hi, hu, hcell with
    | 0, _, hu, hcell => exact hcell.trans hu
    | 1, _, hu, hcell => exact hcell.trans hu
  · obtain ⟨i, hi, rfl⟩ := RS.mem_map_range hxm
    obtain ⟨ad, e, hc⟩ := hx (by omega)
    exact ⟨(hc i hi 0 (by decide)).2, (hc i hi 1 (by decide)).2⟩
theorem row105 {W : World} {A : Option Addr} {len : Nat} {X : Nat → Nat → Int} (hm : len ≤ maxLen) (hx : 0 < len → ∃ ad, A = some ad ∧ ∀ i, i < len → ∀ j, j < 2 → W.cell? (ad.add (i * 2 + j)) = some (.int .i64 (X i j)) ∧ (Lit.int .i64 (X i j)).wf = true) :
    ∃ l : List S105, len = l.length ∧ Kd.C k105 W A l.length l ∧ ∀ x ∈ l, (Lit.int .i64 x.f0).wf = true ∧ (Lit.int .i64 x.f1).wf = true := by
  refine ⟨(List.range len).map fun i => (⟨X i 0, X i 1⟩ : S105), by simp, ⟨rfl, by simp only [List.length_map, List.length_range]; exact hm, fun hn => ?_⟩, fun x hxm => ?_⟩
  · obtain ⟨ad, e, hc⟩ := hx (by simpa using hn)
    refine ⟨ad, e, fun j p hj => ⟨_, rfl, k105_mk W p, fun i u hu => ?_⟩⟩
    obtain ⟨hjl, rfl⟩ := RS.getD_range _ _ _ _ hj
    have hi : i < 2 := (List.getElem?_eq_some_iff.1 hu).1
    have hcell := (hc j hjl i hi).1
    match i, hi, hu, hcell with
    | 0, _, hu, hcell => exact hcell.trans hu
    | 1, _, hu, hcell => exact hcell.trans hu
  · obtain ⟨i, hi, rfl⟩ := RS.mem_map_range hxm
    obtain ⟨ad, e, hc⟩ := hx (by omega)
    exact ⟨(hc i hi 0 (by decide)).2, (hc i hi 1 (by decide)).2⟩
theorem row108 {W : World} {A : Option Addr} {len : Nat} {X : Nat → Nat → Int} (hm : len ≤ maxLen) (hx : 0 < len → ∃ ad, A = some ad ∧ ∀ i, i < len → ∀ j, j < 3 → W.cell? (ad.add (i * 3 + j)) = some (.int .i64 (X i j)) ∧ (Lit.int .i64 (X i j)).wf = true) :
    ∃ l : List S108, len = l.length ∧ Kd.C k108 W A l.length l ∧ ∀ x ∈ l, (Lit.int .i64 x.f0).wf = true ∧ (Lit.int .i64 x.f1).wf = true ∧ (Lit.int .i64 x.f2).wf = true := by
  refine ⟨(List.range len).map fun i => (⟨X i 0, X i 1, X i 2⟩ : S108), by simp, ⟨rfl, by simp only [List.length_map, List.length_range]; exact hm, fun hn => ?_⟩, fun x hxm => ?_⟩
  · obtain ⟨ad, e, hc⟩ := hx (by simpa using hn)
    refine ⟨ad, e, fun j p hj => ⟨_, rfl, k108_mk W p, fun i u hu => ?_⟩⟩
    obtain ⟨hjl, rfl⟩ := RS.getD_range _ _ _ _ hj
    have hi : i < 3 := (List.getElem?_eq_some_iff.1 hu).1
    have hcell := (hc j hjl i hi).1
    match i, hi, hu, hcell with
    | 0, _, hu, hcell => exact hcell.trans hu
    | 1, _, hu, hcell => exact hcell.trans hu
    | 2, _, hu, hcell => exact hcell.trans hu
  · obtain ⟨i, hi, rfl⟩ := RS.mem_map_range hxm
    obtain ⟨ad, e, hc⟩ := hx (by omega)
    exact ⟨(hc i hi 0 (by decide)).2, (hc i hi 1 (by decide)).2, (hc i hi 2 (by decide)).2⟩
theorem row112 {W : World} {A : Option Addr} {len : Nat} {X : Nat → Nat → Int} (hm : len ≤ maxLen) (hx : 0 < len → ∃ ad, A = some ad ∧ ∀ i, i < len → ∀ j, j < 5 → W.cell? (ad.add (i * 5 + j)) = some (.int .i64 (X i j)) ∧ (Lit.int .i64 (X i j)).wf = true) :
    ∃ l : List S112, len = l.length ∧ Kd.C k112 W A l.length l ∧ ∀ x ∈ l, (Lit.int .i64 x.f0).wf = true ∧ (Lit.int .i64 x.f1).wf = true ∧ (Lit.int .i64 x.f2).wf = true ∧ (Lit.int .i64 x.f3).wf = true ∧ (Lit.int .i64 x.f4).wf = true := by
  refine ⟨(List.range len).map fun i => (⟨X i 0, X i 1, X i 2, X i 3, X i 4⟩ : S112), by simp, ⟨rfl, by simp only [List.length_map, List.length_range]; exact hm, fun hn => ?_⟩, fun x hxm => ?_⟩
  · obtain ⟨ad, e, hc⟩ := hx (by simpa using hn)
    refine ⟨ad, e, fun j p hj => ⟨_, rfl, k112_mk W p, fun i u hu => ?_⟩⟩
    obtain ⟨hjl, rfl⟩ := RS.getD_range _ _ _ _ hj
    have hi : i < 5 := (List.getElem?_eq_some_iff.1 hu).1
    have hcell := (hc j hjl i hi).1
    match i, hi, hu, hcell with
    | 0, _, hu, hcell => exact hcell.trans hu
    | 1, _, hu, hcell => exact hcell.trans hu
    | 2, _, hu, hcell => exact hcell.trans hu
    | 3, _, hu, hcell => exact hcell.trans hu
    | 4, _, hu, hcell => exact hcell.trans hu
  · obtain ⟨i, hi, rfl⟩ := RS.mem_map_range hxm
    obtain ⟨ad, e, hc⟩ := hx (by omega)
    exact ⟨(hc i hi 0 (by decide)).2, (hc i hi 1 (by decide)).2, (hc i hi 2 (by decide)).2, (hc i hi 3 (by decide)).2, (hc i hi 4 (by decide)).2⟩
theorem row114 {W : World} {A : Option Addr} {len : Nat} {X : Nat → Nat → Int} (hm : len ≤ maxLen) (hx : 0 < len → ∃ ad, A = some ad ∧ ∀ i, i < len → ∀ j, j < 8 → W.cell? (ad.add (i * 8 + j)) = some (.int .i64 (X i j)) ∧ (Lit.int .i64 (X i j)).wf = true) :
    ∃ l : List S114, len = l.length ∧ Kd.C k114 W A l.length l ∧ ∀ x ∈ l, (Lit.int .i64 x.f0).wf = true ∧ (Lit.int .i64 x.f1).wf = true ∧ (Lit.int .i64 x.f2).wf = true ∧ (Lit.int .i64 x.f3).wf = true ∧ (Lit.int .i64 x.f4).wf = true ∧ (Lit.int .i64 x.f5).wf = true ∧ (Lit.int .i64 x.f6).wf = true ∧ (Lit.int .i64 x.f7).wf = true := by
  refine ⟨(List.range len).map fun i => (⟨X i 0, X i 1, X i 2, X i 3, X i 4, X i 5, X i 6, X i 7⟩ : S114), by simp, ⟨rfl, by simp only [List.length_map, List.length_range]; exact hm, fun hn => ?_⟩, fun x hxm => ?_⟩
  · obtain ⟨ad, e, hc⟩ := hx (by simpa using hn)
    refine ⟨ad, e, fun j p hj => ⟨_, rfl, k114_mk W p, fun i u hu => ?_⟩⟩
    obtain ⟨hjl, rfl⟩ := RS.getD_range _ _ _ _ hj
    have hi : i < 8 := (List.getElem?_eq_some_iff.1 hu).1
    have hcell := (hc j hjl i hi).1
    match i, hi, hu, hcell with
    | 0, _, hu, hcell => exact hcell.trans hu
    | 1, _, hu, hcell => exact hcell.trans hu
    | 2, _, hu, hcell => exact hcell.trans hu
    | 3, _, hu, hcell => exact hcell.trans hu
    | 4, _, hu, hcell => exact hcell.trans hu
    | 5, _, hu, hcell => exact hcell.trans hu
    | 6, _, hu, hcell => exact hcell.trans hu
    | 7, _, hu, hcell => exact hcell.trans hu
  · obtain ⟨i, hi, rfl⟩ := RS.mem_map_range hxm
    obtain ⟨ad, e, hc⟩ := hx (by omega)
    exact ⟨(hc i hi 0 (by decide)).2, (hc i hi 1 (by decide)).2, (hc i hi 2 (by decide)).2, (hc i hi 3 (by decide)).2, (hc i hi 4 (by decide)).2, (hc i hi 5 (by decide)).2, (hc i hi 6 (by decide)).2, (hc i hi 7 (by decide)).2⟩
end Go.Proofs.YtmfgajbkcnlkcaaGreat.RT
namespace Go.Proofs.YtmfgajbkcnlkcaaGreat.fnExactBookInstr
open Go.ChangeShapes Go.WideShapes Go.ChangeAt Go.RowKit Go.Proofs.YtmfgajbkcnlkcaaGreatW.PrintWords
open Go.ChangeMaps (open_string shut_string)
set_option linter.unusedVariables false
theorem own : ownKnob Tryz.prog.godebug = none := by kernel_rfl
theorem laidOut : laidOutB Tryz.prog = true := by kernel_rfl
set_option maxRecDepth 100000 in
theorem lifted (os : Os) (started : os.Started) (H : Type) (enc : TypeId × Value → H) :
    ReturnsInHanded {} Tryz.checked os 5 .any (Rows.fnExactBookInstrSpec.pre6 enc Tryz.prog Tryz.f5 Rows.fnExactBookInstrRow.domain false) (Rows.fnExactBookInstrSpec.post enc Tryz.prog Tryz.f5 false true false false) := by
  refine returnsInHanded_of_change_sized (C := Tryz.checked) own started (by kernel_rfl) Tryz.func5
    (ChangeSpec.witness6 (enc := enc) (C := Tryz.checked) false ⟨#[], #[.agg #[.slice none 0 0, .slice none 0 0, .slice none 0 0, .slice none 0 0, .slice none 0 0, .int .i64 0], .int .i64 0, .int .i64 0], []⟩ 8 (by kernel_rfl) (by kernel_rfl) (by kernel_rfl) (by kernel_rfl)) ?_
  intro W base args ds gs before hval0 hW hcnd hsz0 _
  have hsz : (DataW.weightsEach Tryz.prog (Tryz.f5.params.toList ++ Rows.fnExactBookInstrSpec.plain.varTypes Tryz.prog) (ds ++ gs)).all (· ≤ reachBytes) = true := hsz0
  have hval : ∀ (j : Nat) t v, Tryz.f5.params[j]? = some t → args[j]? = some v → Value.okWide Tryz.prog W .any base t v := hval0
  have hW' := hW
  obtain ⟨p, q, hA0, hV, rfl, hfz, hnd⟩ := hW
  have hA : DataW.TrodAll enc Tryz.prog W 0 (fun _ => true) true Tryz.f5.params.toList args.toList ds p := hA0
  rw [Tryz.params5] at hA hval hsz
  obtain ⟨v0, vs0, d0, ds0, p0, q0, hargs, rfl, rfl, h0, r0⟩ := trodAll_cons hA
  obtain ⟨v1, vs1, d1, ds1, p1, q1, rfl, rfl, rfl, h1, r1⟩ := trodAll_cons r0
  obtain ⟨v2, vs2, d2, ds2, p2, q2, rfl, rfl, rfl, h2, r2⟩ := trodAll_cons r1
  obtain ⟨rfl, rfl, rfl⟩ := trodAll_nil r2
  obtain rfl : args = #[v0, v1, v2] := by cases args; simp_all
  obtain ⟨rfl, rfl⟩ := trodVars_none hV
  have k0 := h0
  have lt0 : ∀ x ∈ p0, x.block < W.heap.size := by obtain ⟨m, hm⟩ := k0; exact DataW.trod_lt m _ _ _ hm
  obtain ⟨cs0, n0, rfl, hcl0, hg0⟩ := RS.open_val Tryz.underlying28 (by kernel_rfl) (by kernel_rfl) (hval 0 28 v0 rfl rfl) h0
  have hcn0 : cs0.length = 6 := hcl0.trans (by kernel_rfl)
  clear hcl0
  obtain ⟨b0_0, b0_1, b0_2, b0_3, b0_4, b0_5, rfl⟩ := RS.len6 hcn0
  obtain ⟨y0_0, hy0_0⟩ := hg0 0 _ rfl
  obtain ⟨A0_0, n0_0, c0_0, X0_0, hv0_0, hl0_0, hm0_0, hx0_0⟩ := RS.open_rows Tryz.underlying22 Tryz.underlying103 (by kernel_rfl) (by kernel_rfl) (by kernel_rfl) (v := b0_0) hy0_0
  subst hv0_0
  obtain ⟨l0_0, e0_0, hr0_0, hw0_0⟩ := RT.row103 (Nat.le_trans hl0_0 hm0_0) hx0_0
  subst e0_0
  obtain ⟨y0_1, hy0_1⟩ := hg0 1 _ rfl
  obtain ⟨A0_1, n0_1, c0_1, X0_1, hv0_1, hl0_1, hm0_1, hx0_1⟩ := RS.open_rows Tryz.underlying23 Tryz.underlying105 (by kernel_rfl) (by kernel_rfl) (by kernel_rfl) (v := b0_1) hy0_1
  subst hv0_1
  obtain ⟨l0_1, e0_1, hr0_1, hw0_1⟩ := RT.row105 (Nat.le_trans hl0_1 hm0_1) hx0_1
  subst e0_1
  obtain ⟨y0_2, hy0_2⟩ := hg0 2 _ rfl
  obtain ⟨A0_2, n0_2, c0_2, X0_2, hv0_2, hl0_2, hm0_2, hx0_2⟩ := RS.open_rows Tryz.underlying24 Tryz.underlying108 (by kernel_rfl) (by kernel_rfl) (by kernel_rfl) (v := b0_2) hy0_2
  subst hv0_2
  obtain ⟨l0_2, e0_2, hr0_2, hw0_2⟩ := RT.row108 (Nat.le_trans hl0_2 hm0_2) hx0_2
  subst e0_2
  obtain ⟨y0_3, hy0_3⟩ := hg0 3 _ rfl
  obtain ⟨A0_3, n0_3, c0_3, X0_3, hv0_3, hl0_3, hm0_3, hx0_3⟩ := RS.open_rows Tryz.underlying25 Tryz.underlying112 (by kernel_rfl) (by kernel_rfl) (by kernel_rfl) (v := b0_3) hy0_3
  subst hv0_3
  obtain ⟨l0_3, e0_3, hr0_3, hw0_3⟩ := RT.row112 (Nat.le_trans hl0_3 hm0_3) hx0_3
  subst e0_3
  obtain ⟨y0_4, hy0_4⟩ := hg0 4 _ rfl
  obtain ⟨A0_4, n0_4, c0_4, X0_4, hv0_4, hl0_4, hm0_4, hx0_4⟩ := RS.open_rows Tryz.underlying26 Tryz.underlying114 (by kernel_rfl) (by kernel_rfl) (by kernel_rfl) (v := b0_4) hy0_4
  subst hv0_4
  obtain ⟨l0_4, e0_4, hr0_4, hw0_4⟩ := RT.row114 (Nat.le_trans hl0_4 hm0_4) hx0_4
  subst e0_4
  obtain ⟨y0_5, hy0_5⟩ := hg0 5 _ rfl
  obtain ⟨a0_5, hq0_5, hw0_5⟩ := RS.int_of (v := b0_5) Tryz.underlying3 hy0_5
  subst hq0_5
  obtain ⟨a1, rfl, rfl, rfl, w1⟩ := open_int Tryz.underlying3 (hval 1 3 v1 rfl rfl) h1
  obtain ⟨a2, rfl, rfl, rfl, w2⟩ := open_int Tryz.underlying3 (hval 2 3 v2 rfl rfl) h2
  clear hA0 hval0 hsz0 hsz
  obtain ⟨k, hpure⟩ := Pure.FnExactBookInstr l0_0 l0_1 l0_2 l0_3 l0_4 a0_5 a1 a2 (Kd.C_max hr0_0) hw0_0 (Kd.C_max hr0_1) hw0_1 (Kd.C_max hr0_2) hw0_2 (Kd.C_max hr0_3) hw0_3 (Kd.C_max hr0_4) hw0_4 hw0_5 w1 w2
  refine (AI.root5_ok k _ _ l0_0 _ _ l0_1 _ _ l0_2 _ _ l0_3 _ _ l0_4 a0_5 a1 a2 true W hr0_0 hl0_0 hr0_1 hl0_1 hr0_2 hl0_2 hr0_3 hl0_3 hr0_4 hl0_4 hpure).mono fun e W' hpost => ?_
  obtain ⟨he, hd⟩ := hpost
  have bel : Below W.heap.size W W' := hd
  subst he
  exact ⟨_, rfl, _, _, _, [], _, [], hW', trodAll_mk1 (shut_bool Tryz.underlying4 _), (trodAll_cons_mk (Below.trod laidOut (by kernel_rfl) (of_decide_eq_true (by kernel_rfl)) k0 bel lt0) (trodAll_cons_mk (shut_int Tryz.underlying3 w1) (trodAll_cons_mk (shut_int Tryz.underlying3 w2) trodAll_mk0))), rfl, bel.frame _, fun h => by cases h⟩
theorem over : Rows.fnExactBookInstrRow.holds Tryz.pinned (OpenSpec.ofChange Rows.fnExactBookInstrSpec) :=
  OpenClaim.holds_of_wide 5 Tryz.f5 rfl rfl rfl rfl rfl rfl rfl ⟨rfl, rfl, rfl, rfl, rfl⟩ rfl rfl rfl rfl rfl (by kernel_rfl) Tryz.func5 (by kernel_rfl)
    (of_decide_eq_true (by kernel_rfl)) (by unfold Func.isWrapper; first | (rw [if_pos (by decide +kernel)]; kernel_rfl) | (rw [if_neg (by decide +kernel)]; exact ⟨rfl, rfl⟩))
    (fun os started H enc _ => lifted os started H enc)
theorem proved : Rows.FnExactBookInstrSaid := over
#print axioms proved
end Go.Proofs.YtmfgajbkcnlkcaaGreat.fnExactBookInstr
namespace Go.Proofs.YtmfgajbkcnlkcaaGreat
theorem fnExactBookInstr_holds : Rows.FnExactBookInstrSaid := fnExactBookInstr.proved
end Go.Proofs.YtmfgajbkcnlkcaaGreat
