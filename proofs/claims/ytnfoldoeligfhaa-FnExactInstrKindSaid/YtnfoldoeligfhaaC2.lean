/- The Kind of an account (of an instrument) of a list: the program's answer and the reference's are the same number. -/
import Derived.Test.YtnfoldoeligfhaaPx0
import Derived.Test.YtnfoldoeligfhaaPx2
import Derived.Test.YtnfoldoeligfhaaPx5
import Derived.Test.YtnfoldoeligfhaaPx7
import Derived.Test.YtnfoldoeligfhaaPx8
import Derived.Test.YtnfoldoeligfhaaEV
import Derived.Test.YtnfoldoeligfhaaI1
import Derived.Test.YtnfoldoeligfhaaC1
namespace Go.Proofs.Ytnfoldoeligfhaa.C2
open Go Go.RowKit Go.Proofs.Ytnfoldoeligfhaa.P Go.Proofs.YtnfoldoeligfhaaW.PrintWords Go.Proofs.YtnfoldoeligfhaaW.PrintLast Go.Proofs.Ytnfoldoeligfhaa.EV Go.Proofs.Ytnfoldoeligfhaa.I1 Go.Proofs.Ytnfoldoeligfhaa.C1

/-- The Kind of the first that has the number. -/
def kindA : List S44 → Int → Int
  | [], _ => 0
  | x :: l, no => if x.f0 = no then x.f1 else kindA l no
theorem kindL_i (l : List S44) (no : Int) (hm : l.length ≤ 9223372036854775807) : Ev (fun k => impl_accountKind.f k l no) (kindA l no) := by
  unfold impl_accountKind.f
  have h := Ev_goes (fun k (_ : Unit) i => impl_accountKind.l0 k no l (l.length : Int) i) l.length (fun i _ => kindA (l.drop i) no) (fun _ _ => True)
    (fun s hs => Ev_one fun k => by
      simp only [impl_accountKind.l0]
      rw [if_neg (by omega), List.drop_length]
      rfl)
    (fun i s hi _ => by
      have hd : l.drop i = l.getD i z44 :: l.drop (i + 1) := by
        rw [List.drop_eq_getElem_cons hi, List.getD_eq_getElem?_getD, List.getElem?_eq_getElem hi]
        rfl
      have e : ∀ k, impl_accountKind.l0 (k + 1) no l (l.length : Int) (i : Int) = if (l.getD i z44).f0 = no then some (l.getD i z44).f1 else impl_accountKind.l0 k no l (l.length : Int) ((i + 1 : Nat) : Int) := by
        intro k
        simp only [impl_accountKind.l0]
        rw [if_pos (by omega), if_pos (by omega), if_pos (by omega), w_succ hi (by omega)]
        simp only [rdA]
      by_cases hq : (l.getD i z44).f0 = no
      · refine .inl (Ev_one fun k => ?_)
        show impl_accountKind.l0 (k + 1) no l (l.length : Int) (i : Int) = some (kindA (l.drop i) no)
        rw [e, if_pos hq, hd]
        unfold kindA
        rw [if_pos hq]
      · refine .inr ⟨(), trivial, ?_, fun k => ?_⟩
        · show kindA (l.drop (i + 1)) no = kindA (l.drop i) no
          rw [hd]
          conv => rhs; unfold kindA
          rw [if_neg hq]
        · show impl_accountKind.l0 (k + 1) no l (l.length : Int) (i : Int) = _
          rw [e, if_neg hq]) l.length 0 () (by omega) (by omega) trivial
  exact h
/-- What AccountKind tells of any list. -/
noncomputable def kindOkA (l : List S44) (no : Int) : Int := if okA l = true then kindA l no else 0
theorem kindOkA_i (l : List S44) (no : Int) (hm : l.length ≤ 9223372036854775807) : Ev (fun k => impl_AccountKind.f k l no) (kindOkA l no) := by
  unfold impl_AccountKind.f
  refine Ev_bind (accountsOk_i l hm) ?_
  unfold kindOkA
  cases okA l with
  | true =>
    refine Ev.congr (fun k => if_pos rfl) ?_
    rw [if_pos rfl]
    exact Ev_bind (kindL_i l no hm) (Ev.now _)
  | false => exact Ev_all_k fun k => by rw [if_neg (by decide), if_neg (by decide)]
theorem kindOkA_s (l : List S44) (no : Int) (hm : l.length ≤ 9223372036854775807) : Ev (fun k => spec_AccountKind.f k l no) (kindOkA l no) := by
  unfold spec_AccountKind.f
  have h := Ev_goes' (fun k (_ : Unit) i => spec_AccountKind.l0 k l no i) l.length (fun i _ => if okA l = true then kindA (l.drop i) no else 0) (fun _ _ => True)
    (fun s hs => by
      refine Ev.step (f := fun k => spec_AccountKind.j1 k l no (l.length : Int) false) (fun k => ?_) (Ev_one fun k => ?_)
      · simp only [spec_AccountKind.l0]
        rw [if_neg (by omega)]
      · simp only [spec_AccountKind.j1]
        rw [if_neg (by decide), List.drop_length]
        split <;> rfl)
    (fun i s hi _ => by
      have hd := drop_getD z44 l i hi
      have e0 : ∀ k, spec_AccountKind.l0 (k + 1) l no (i : Int) = (spec_AccountsOk.f k l).bind fun t => spec_AccountKind.j1 k l no (i : Int) t := by
        intro k
        simp only [spec_AccountKind.l0]
        rw [if_pos (by omega)]
      cases hok : okA l with
      | false =>
        left
        refine Ev.step e0 (Ev_bind (accountsOk_s l) ?_)
        rw [hok, if_neg (by decide)]
        exact Ev_one fun k => by simp only [spec_AccountKind.j1]; rw [if_neg (by decide)]
      | true =>
        have e1 : ∀ k, spec_AccountKind.j1 (k + 1) l no (i : Int) true = if (l.getD i z44).f0 = no then some (l.getD i z44).f1 else spec_AccountKind.l0 k l no ((i + 1 : Nat) : Int) := by
          intro k
          simp only [spec_AccountKind.j1]
          rw [if_pos trivial, if_pos (by omega), if_pos (by omega), w_succ hi (by omega)]
          simp only [rdA]
        by_cases hq : (l.getD i z44).f0 = no
        · left
          refine Ev.step e0 (Ev_bind (accountsOk_s l) ?_)
          rw [hok, if_pos rfl, hd]
          unfold kindA
          rw [if_pos hq]
          exact Ev_one fun k => by rw [e1, if_pos hq]
        · refine .inr ⟨(), trivial, ?_, fun r hr => ?_⟩
          · rw [if_pos rfl, if_pos rfl, hd]
            conv => rhs; unfold kindA
            rw [if_neg hq]
          · refine Ev.step e0 (Ev_bind (accountsOk_s l) ?_)
            rw [hok]
            exact Ev.step (fun k => by rw [e1, if_neg hq]) hr) l.length 0 () (by omega) (by omega) trivial
  exact h

/-- The Kind of the first that has the number. -/
def kindI : List S50 → Int → Int
  | [], _ => 0
  | x :: l, no => if x.f0 = no then x.f1 else kindI l no
theorem kindM_i (l : List S50) (no : Int) (hm : l.length ≤ 9223372036854775807) : Ev (fun k => impl_instrKind.f k l no) (kindI l no) := by
  unfold impl_instrKind.f
  have h := Ev_goes (fun k (_ : Unit) i => impl_instrKind.l0 k no l (l.length : Int) i) l.length (fun i _ => kindI (l.drop i) no) (fun _ _ => True)
    (fun s hs => Ev_one fun k => by
      simp only [impl_instrKind.l0]
      rw [if_neg (by omega), List.drop_length]
      rfl)
    (fun i s hi _ => by
      have hd : l.drop i = l.getD i z50 :: l.drop (i + 1) := by
        rw [List.drop_eq_getElem_cons hi, List.getD_eq_getElem?_getD, List.getElem?_eq_getElem hi]
        rfl
      have e : ∀ k, impl_instrKind.l0 (k + 1) no l (l.length : Int) (i : Int) = if (l.getD i z50).f0 = no then some (l.getD i z50).f1 else impl_instrKind.l0 k no l (l.length : Int) ((i + 1 : Nat) : Int) := by
        intro k
        simp only [impl_instrKind.l0]
        rw [if_pos (by omega), if_pos (by omega), if_pos (by omega), w_succ hi (by omega)]
        simp only [rdI]
      by_cases hq : (l.getD i z50).f0 = no
      · refine .inl (Ev_one fun k => ?_)
        show impl_instrKind.l0 (k + 1) no l (l.length : Int) (i : Int) = some (kindI (l.drop i) no)
        rw [e, if_pos hq, hd]
        unfold kindI
        rw [if_pos hq]
      · refine .inr ⟨(), trivial, ?_, fun k => ?_⟩
        · show kindI (l.drop (i + 1)) no = kindI (l.drop i) no
          rw [hd]
          conv => rhs; unfold kindI
          rw [if_neg hq]
        · show impl_instrKind.l0 (k + 1) no l (l.length : Int) (i : Int) = _
          rw [e, if_neg hq]) l.length 0 () (by omega) (by omega) trivial
  exact h
/-- What InstrKind tells of any list. -/
noncomputable def kindOkI (l : List S50) (no : Int) : Int := if okI l = true then kindI l no else 0
theorem kindOkI_i (l : List S50) (no : Int) (hm : l.length ≤ 9223372036854775807) : Ev (fun k => impl_InstrKind.f k l no) (kindOkI l no) := by
  unfold impl_InstrKind.f
  refine Ev_bind (instrsOk_i l hm) ?_
  unfold kindOkI
  cases okI l with
  | true =>
    refine Ev.congr (fun k => if_pos rfl) ?_
    rw [if_pos rfl]
    exact Ev_bind (kindM_i l no hm) (Ev.now _)
  | false => exact Ev_all_k fun k => by rw [if_neg (by decide), if_neg (by decide)]
theorem kindOkI_s (l : List S50) (no : Int) (hm : l.length ≤ 9223372036854775807) : Ev (fun k => spec_InstrKind.f k l no) (kindOkI l no) := by
  unfold spec_InstrKind.f
  have h := Ev_goes' (fun k (_ : Unit) i => spec_InstrKind.l0 k l no i) l.length (fun i _ => if okI l = true then kindI (l.drop i) no else 0) (fun _ _ => True)
    (fun s hs => by
      refine Ev.step (f := fun k => spec_InstrKind.j1 k l no (l.length : Int) false) (fun k => ?_) (Ev_one fun k => ?_)
      · simp only [spec_InstrKind.l0]
        rw [if_neg (by omega)]
      · simp only [spec_InstrKind.j1]
        rw [if_neg (by decide), List.drop_length]
        split <;> rfl)
    (fun i s hi _ => by
      have hd := drop_getD z50 l i hi
      have e0 : ∀ k, spec_InstrKind.l0 (k + 1) l no (i : Int) = (spec_InstrsOk.f k l).bind fun t => spec_InstrKind.j1 k l no (i : Int) t := by
        intro k
        simp only [spec_InstrKind.l0]
        rw [if_pos (by omega)]
      cases hok : okI l with
      | false =>
        left
        refine Ev.step e0 (Ev_bind (instrsOk_s l) ?_)
        rw [hok, if_neg (by decide)]
        exact Ev_one fun k => by simp only [spec_InstrKind.j1]; rw [if_neg (by decide)]
      | true =>
        have e1 : ∀ k, spec_InstrKind.j1 (k + 1) l no (i : Int) true = if (l.getD i z50).f0 = no then some (l.getD i z50).f1 else spec_InstrKind.l0 k l no ((i + 1 : Nat) : Int) := by
          intro k
          simp only [spec_InstrKind.j1]
          rw [if_pos trivial, if_pos (by omega), if_pos (by omega), w_succ hi (by omega)]
          simp only [rdI]
        by_cases hq : (l.getD i z50).f0 = no
        · left
          refine Ev.step e0 (Ev_bind (instrsOk_s l) ?_)
          rw [hok, if_pos rfl, hd]
          unfold kindI
          rw [if_pos hq]
          exact Ev_one fun k => by rw [e1, if_pos hq]
        · refine .inr ⟨(), trivial, ?_, fun r hr => ?_⟩
          · rw [if_pos rfl, if_pos rfl, hd]
            conv => rhs; unfold kindI
            rw [if_neg hq]
          · refine Ev.step e0 (Ev_bind (instrsOk_s l) ?_)
            rw [hok]
            exact Ev.step (fun k => by rw [e1, if_neg hq]) hr) l.length 0 () (by omega) (by omega) trivial
  exact h

end Go.Proofs.Ytnfoldoeligfhaa.C2
