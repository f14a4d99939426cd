/- When a list of accounts (of instruments) is right: the program's answer and the reference's, in closed form. -/
import Derived.Test.YtnfoldoeligfhaaPx0
import Derived.Test.YtnfoldoeligfhaaPx1
import Derived.Test.YtnfoldoeligfhaaPx2
import Derived.Test.YtnfoldoeligfhaaPx3
import Derived.Test.YtnfoldoeligfhaaPx5
import Derived.Test.YtnfoldoeligfhaaPx6
import Derived.Test.YtnfoldoeligfhaaEV
import Derived.Test.YtnfoldoeligfhaaI1
namespace Go.Proofs.Ytnfoldoeligfhaa.C1
open Go Go.RowKit Go.Proofs.Ytnfoldoeligfhaa.P Go.Proofs.YtnfoldoeligfhaaW.PrintWords Go.Proofs.YtnfoldoeligfhaaW.PrintLast Go.Proofs.Ytnfoldoeligfhaa.EV Go.Proofs.Ytnfoldoeligfhaa.I1

theorem no_s (a : Int) : spec_l3No.f a = some (decide (1 ≤ a ∧ a ≤ 1000)) := by unfold spec_l3No.f; rw [in_s]; rfl
theorem no_i (a : Int) : impl_isNo.f a = some (decide (1 ≤ a ∧ a ≤ 1000)) := by unfold impl_isNo.f; rw [in_i]; rfl

/-- What the list's place j must hold. -/
def GoodA (l : List S44) (j : Nat) : Prop :=
  (1 ≤ (l.getD j z44).f0 ∧ (l.getD j z44).f0 ≤ 1000) ∧ (1 ≤ (l.getD j z44).f1 ∧ (l.getD j z44).f1 ≤ 4) ∧ (0 < j → (l.getD (j - 1) z44).f0 < (l.getD j z44).f0)
def OkA (l : List S44) : Prop := l.length ≤ 20 ∧ ∀ j, j < l.length → GoodA l j
noncomputable def okA (l : List S44) : Bool := @decide (OkA l) (Classical.propDecidable _)
theorem okA_iff (l : List S44) : okA l = true ↔ OkA l := by unfold okA; exact @decide_eq_true_iff _ (Classical.propDecidable _)
theorem rdA (l : List S44) (i : Nat) : rd_T44 l (i : Int) = l.getD i z44 := by unfold rd_T44; rw [Int.toNat_natCast]

theorem accountsOk_s (l : List S44) : Ev (fun k => spec_AccountsOk.f k l) (okA l) := by
  unfold spec_AccountsOk.f
  by_cases hn : (l.length : Int) > 20
  · have : okA l = false := by
      rw [Bool.eq_false_iff, Ne, okA_iff]
      intro h
      have := h.1
      omega
    rw [this]
    exact Ev_all_k fun k => by rw [if_pos hn]
  · obtain ⟨r, hr, hiff⟩ := Ev_asks (fun k i => spec_AccountsOk.l0 k l i) l.length (GoodA l) true
      (Ev_one fun k => by simp only [spec_AccountsOk.l0]; rw [if_neg (by omega)])
      (fun i hi => by
        have e : ∀ k, spec_AccountsOk.l0 (k + 1) l (i : Int) = if (1 ≤ (l.getD i z44).f0 ∧ (l.getD i z44).f0 ≤ 1000) then (if (1 ≤ (l.getD i z44).f1 ∧ (l.getD i z44).f1 ≤ 4) then (if 0 < i then (if (l.getD (i - 1) z44).f0 < (l.getD i z44).f0 then spec_AccountsOk.l0 k l ((i + 1 : Nat) : Int) else some false) else spec_AccountsOk.l0 k l ((i + 1 : Nat) : Int)) else some false) else some false := by
          intro k
          simp only [spec_AccountsOk.l0]
          rw [if_pos (by omega), if_pos (by omega)]
          rw [w_succ hi (by omega)]
          by_cases h0 : 0 < i
          · rw [w_pred hi h0 (by omega)]
            simp only [no_s, in_s, Option.bind_some, decide_eq_true_iff, rdA]
            split
            · split
              · rw [if_pos (by omega), if_pos (by omega), if_pos (by omega)]
                split
                · rw [if_neg (by omega)]
                · rw [if_pos (by omega)]
              · rfl
            · rfl
          · simp only [no_s, in_s, Option.bind_some, decide_eq_true_iff, rdA]
            split
            · split
              · rw [if_neg (by omega)]
              · rfl
            · rfl
        by_cases hg : GoodA l i
        · refine .inl ⟨hg, fun k => ?_⟩
          show spec_AccountsOk.l0 (k + 1) l (i : Int) = _
          rw [e k, if_pos hg.1, if_pos hg.2.1]
          split
          · rename_i h0
            rw [if_pos (hg.2.2 h0)]
          · rfl
        · refine .inr ⟨hg, fun k => ?_⟩
          show spec_AccountsOk.l0 (k + 1) l (i : Int) = _
          rw [e k]
          unfold GoodA at hg
          split
          · rename_i h1
            split
            · rename_i h2
              split
              · rename_i h3
                rw [if_neg (fun h4 => hg ⟨h1, h2, fun _ => h4⟩)]
              · rename_i h3
                exact absurd ⟨h1, h2, fun h4 => absurd h4 h3⟩ hg
            · rfl
          · rfl) l.length 0 (by omega) (by omega)
    have hq : r = okA l := by
      rw [Bool.eq_iff_iff, hiff, okA_iff]
      exact ⟨fun h => ⟨by omega, fun j hj => h.1 j (Nat.zero_le _) hj⟩, fun h => ⟨fun j _ hj => h.2 j hj, rfl⟩⟩
    subst hq
    exact Ev.congr (fun k => by rw [if_neg hn]; rfl) hr

theorem accountsOk_i (l : List S44) (hm : l.length ≤ 9223372036854775807) : Ev (fun k => impl_AccountsOk.f k l) (okA l) := by
  unfold impl_AccountsOk.f
  obtain ⟨r, hr, hiff⟩ := Ev_asks (fun k i => impl_AccountsOk.l0 k l l (l.length : Int) i) l.length (GoodA l) (decide ((l.length : Int) ≤ 20))
      (Ev_one fun k => by simp only [impl_AccountsOk.l0]; rw [if_neg (by omega)])
      (fun i hi => by
        have e : ∀ k, impl_AccountsOk.l0 (k + 1) l l (l.length : Int) (i : Int) = if (1 ≤ (l.getD i z44).f0 ∧ (l.getD i z44).f0 ≤ 1000) then (if (1 ≤ (l.getD i z44).f1 ∧ (l.getD i z44).f1 ≤ 4) then (if 0 < i then (if (l.getD (i - 1) z44).f0 < (l.getD i z44).f0 then impl_AccountsOk.l0 k l l (l.length : Int) ((i + 1 : Nat) : Int) else some false) else impl_AccountsOk.l0 k l l (l.length : Int) ((i + 1 : Nat) : Int)) else some false) else some false := by
          intro k
          simp only [impl_AccountsOk.l0]
          rw [if_pos (by omega), if_pos (by omega), if_pos (by omega)]
          rw [w_succ hi (by omega)]
          by_cases h0 : 0 < i
          · rw [w_pred hi h0 (by omega)]
            simp only [no_i, in_i, Option.bind_some, decide_eq_true_iff, rdA]
            split
            · split
              · rw [if_pos (by omega), if_pos (by omega), if_pos (by omega)]
                split
                · rw [if_neg (by omega)]
                · rw [if_pos (by omega)]
              · rfl
            · rfl
          · simp only [no_i, in_i, Option.bind_some, decide_eq_true_iff, rdA]
            split
            · split
              · rw [if_neg (by omega)]
              · rfl
            · rfl
        by_cases hg : GoodA l i
        · refine .inl ⟨hg, fun k => ?_⟩
          show impl_AccountsOk.l0 (k + 1) l l (l.length : Int) (i : Int) = _
          rw [e k, if_pos hg.1, if_pos hg.2.1]
          split
          · rename_i h0
            rw [if_pos (hg.2.2 h0)]
          · rfl
        · refine .inr ⟨hg, fun k => ?_⟩
          show impl_AccountsOk.l0 (k + 1) l l (l.length : Int) (i : Int) = _
          rw [e k]
          unfold GoodA at hg
          split
          · rename_i h1
            split
            · rename_i h2
              split
              · rename_i h3
                rw [if_neg (fun h4 => hg ⟨h1, h2, fun _ => h4⟩)]
              · rename_i h3
                exact absurd ⟨h1, h2, fun h4 => absurd h4 h3⟩ hg
            · rfl
          · rfl) l.length 0 (by omega) (by omega)
  have hq : r = okA l := by
    rw [Bool.eq_iff_iff, hiff, okA_iff, decide_eq_true_iff]
    exact ⟨fun h => ⟨by omega, fun j hj => h.1 j (Nat.zero_le _) hj⟩, fun h => ⟨fun j _ hj => h.2 j hj, by have := h.1; omega⟩⟩
  subst hq
  exact hr

/-- What the list's place j must hold. -/
def GoodI (l : List S50) (j : Nat) : Prop :=
  (1 ≤ (l.getD j z50).f0 ∧ (l.getD j z50).f0 ≤ 1000) ∧ (1 ≤ (l.getD j z50).f1 ∧ (l.getD j z50).f1 ≤ 2) ∧ (0 < j → (l.getD (j - 1) z50).f0 < (l.getD j z50).f0)
def OkI (l : List S50) : Prop := l.length ≤ 8 ∧ ∀ j, j < l.length → GoodI l j
noncomputable def okI (l : List S50) : Bool := @decide (OkI l) (Classical.propDecidable _)
theorem okI_iff (l : List S50) : okI l = true ↔ OkI l := by unfold okI; exact @decide_eq_true_iff _ (Classical.propDecidable _)
theorem rdI (l : List S50) (i : Nat) : rd_T50 l (i : Int) = l.getD i z50 := by unfold rd_T50; rw [Int.toNat_natCast]

theorem instrsOk_s (l : List S50) : Ev (fun k => spec_InstrsOk.f k l) (okI l) := by
  unfold spec_InstrsOk.f
  by_cases hn : (l.length : Int) > 8
  · have : okI l = false := by
      rw [Bool.eq_false_iff, Ne, okI_iff]
      intro h
      have := h.1
      omega
    rw [this]
    exact Ev_all_k fun k => by rw [if_pos hn]
  · obtain ⟨r, hr, hiff⟩ := Ev_asks (fun k i => spec_InstrsOk.l0 k l i) l.length (GoodI l) true
      (Ev_one fun k => by simp only [spec_InstrsOk.l0]; rw [if_neg (by omega)])
      (fun i hi => by
        have e : ∀ k, spec_InstrsOk.l0 (k + 1) l (i : Int) = if (1 ≤ (l.getD i z50).f0 ∧ (l.getD i z50).f0 ≤ 1000) then (if (1 ≤ (l.getD i z50).f1 ∧ (l.getD i z50).f1 ≤ 2) then (if 0 < i then (if (l.getD (i - 1) z50).f0 < (l.getD i z50).f0 then spec_InstrsOk.l0 k l ((i + 1 : Nat) : Int) else some false) else spec_InstrsOk.l0 k l ((i + 1 : Nat) : Int)) else some false) else some false := by
          intro k
          simp only [spec_InstrsOk.l0]
          rw [if_pos (by omega), if_pos (by omega)]
          rw [w_succ hi (by omega)]
          by_cases h0 : 0 < i
          · rw [w_pred hi h0 (by omega)]
            simp only [no_s, in_s, Option.bind_some, decide_eq_true_iff, rdI]
            split
            · split
              · rw [if_pos (by omega), if_pos (by omega), if_pos (by omega)]
                split
                · rw [if_neg (by omega)]
                · rw [if_pos (by omega)]
              · rfl
            · rfl
          · simp only [no_s, in_s, Option.bind_some, decide_eq_true_iff, rdI]
            split
            · split
              · rw [if_neg (by omega)]
              · rfl
            · rfl
        by_cases hg : GoodI l i
        · refine .inl ⟨hg, fun k => ?_⟩
          show spec_InstrsOk.l0 (k + 1) l (i : Int) = _
          rw [e k, if_pos hg.1, if_pos hg.2.1]
          split
          · rename_i h0
            rw [if_pos (hg.2.2 h0)]
          · rfl
        · refine .inr ⟨hg, fun k => ?_⟩
          show spec_InstrsOk.l0 (k + 1) l (i : Int) = _
          rw [e k]
          unfold GoodI at hg
          split
          · rename_i h1
            split
            · rename_i h2
              split
              · rename_i h3
                rw [if_neg (fun h4 => hg ⟨h1, h2, fun _ => h4⟩)]
              · rename_i h3
                exact absurd ⟨h1, h2, fun h4 => absurd h4 h3⟩ hg
            · rfl
          · rfl) l.length 0 (by omega) (by omega)
    have hq : r = okI l := by
      rw [Bool.eq_iff_iff, hiff, okI_iff]
      exact ⟨fun h => ⟨by omega, fun j hj => h.1 j (Nat.zero_le _) hj⟩, fun h => ⟨fun j _ hj => h.2 j hj, rfl⟩⟩
    subst hq
    exact Ev.congr (fun k => by rw [if_neg hn]; rfl) hr

theorem instrsOk_i (l : List S50) (hm : l.length ≤ 9223372036854775807) : Ev (fun k => impl_InstrsOk.f k l) (okI l) := by
  unfold impl_InstrsOk.f
  obtain ⟨r, hr, hiff⟩ := Ev_asks (fun k i => impl_InstrsOk.l0 k l l (l.length : Int) i) l.length (GoodI l) (decide ((l.length : Int) ≤ 8))
      (Ev_one fun k => by simp only [impl_InstrsOk.l0]; rw [if_neg (by omega)])
      (fun i hi => by
        have e : ∀ k, impl_InstrsOk.l0 (k + 1) l l (l.length : Int) (i : Int) = if (1 ≤ (l.getD i z50).f0 ∧ (l.getD i z50).f0 ≤ 1000) then (if (1 ≤ (l.getD i z50).f1 ∧ (l.getD i z50).f1 ≤ 2) then (if 0 < i then (if (l.getD (i - 1) z50).f0 < (l.getD i z50).f0 then impl_InstrsOk.l0 k l l (l.length : Int) ((i + 1 : Nat) : Int) else some false) else impl_InstrsOk.l0 k l l (l.length : Int) ((i + 1 : Nat) : Int)) else some false) else some false := by
          intro k
          simp only [impl_InstrsOk.l0]
          rw [if_pos (by omega), if_pos (by omega), if_pos (by omega)]
          rw [w_succ hi (by omega)]
          by_cases h0 : 0 < i
          · rw [w_pred hi h0 (by omega)]
            simp only [no_i, in_i, Option.bind_some, decide_eq_true_iff, rdI]
            split
            · split
              · rw [if_pos (by omega), if_pos (by omega), if_pos (by omega)]
                split
                · rw [if_neg (by omega)]
                · rw [if_pos (by omega)]
              · rfl
            · rfl
          · simp only [no_i, in_i, Option.bind_some, decide_eq_true_iff, rdI]
            split
            · split
              · rw [if_neg (by omega)]
              · rfl
            · rfl
        by_cases hg : GoodI l i
        · refine .inl ⟨hg, fun k => ?_⟩
          show impl_InstrsOk.l0 (k + 1) l l (l.length : Int) (i : Int) = _
          rw [e k, if_pos hg.1, if_pos hg.2.1]
          split
          · rename_i h0
            rw [if_pos (hg.2.2 h0)]
          · rfl
        · refine .inr ⟨hg, fun k => ?_⟩
          show impl_InstrsOk.l0 (k + 1) l l (l.length : Int) (i : Int) = _
          rw [e k]
          unfold GoodI at hg
          split
          · rename_i h1
            split
            · rename_i h2
              split
              · rename_i h3
                rw [if_neg (fun h4 => hg ⟨h1, h2, fun _ => h4⟩)]
              · rename_i h3
                exact absurd ⟨h1, h2, fun h4 => absurd h4 h3⟩ hg
            · rfl
          · rfl) l.length 0 (by omega) (by omega)
  have hq : r = okI l := by
    rw [Bool.eq_iff_iff, hiff, okI_iff, decide_eq_true_iff]
    exact ⟨fun h => ⟨by omega, fun j hj => h.1 j (Nat.zero_le _) hj⟩, fun h => ⟨fun j _ hj => h.2 j hj, by have := h.1; omega⟩⟩
  subst hq
  exact hr

end Go.Proofs.Ytnfoldoeligfhaa.C1
