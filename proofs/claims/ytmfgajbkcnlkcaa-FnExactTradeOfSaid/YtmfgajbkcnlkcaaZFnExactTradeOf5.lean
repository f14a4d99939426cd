/- TradeOf of the program and of the reference agree at all books and numbers; no condition but that they are ints. -/
import Derived.Test.YtmfgajbkcnlkcaaZFnExactTradeOf4
import Derived.Deep.Slices
import Derived.Deep.Fields
import Derived.ChangeSame
import Derived.ChangeShapes
import Derived.WideShapes
import Derived.SizedLaws
import Derived.Test.YtmfgajbkcnlkcaaRows
import Derived.WalkKit
import Derived.ProofKit
import Derived.OpenShut
import Derived.ShutString
import Derived.ChangeOld
import Derived.Below
import Derived.Carry
namespace Go.Proofs.Ytmfgajbkcnlkcaa.P
end Go.Proofs.Ytmfgajbkcnlkcaa.P
namespace Go.Proofs.Ytmfgajbkcnlkcaa.EV
end Go.Proofs.Ytmfgajbkcnlkcaa.EV
namespace Go.Proofs.Ytmfgajbkcnlkcaa.C1
end Go.Proofs.Ytmfgajbkcnlkcaa.C1
namespace Go.Proofs.Ytmfgajbkcnlkcaa.C2
end Go.Proofs.Ytmfgajbkcnlkcaa.C2
namespace Go.Proofs.Ytmfgajbkcnlkcaa.B1
end Go.Proofs.Ytmfgajbkcnlkcaa.B1
namespace Go.Proofs.Ytmfgajbkcnlkcaa.B2
end Go.Proofs.Ytmfgajbkcnlkcaa.B2
namespace Go.Proofs.Ytmfgajbkcnlkcaa.T1
end Go.Proofs.Ytmfgajbkcnlkcaa.T1
namespace Go.Proofs.Ytmfgajbkcnlkcaa.T2
end Go.Proofs.Ytmfgajbkcnlkcaa.T2
namespace Go.Proofs.Ytmfgajbkcnlkcaa.K1
end Go.Proofs.Ytmfgajbkcnlkcaa.K1
namespace Go.Proofs.Ytmfgajbkcnlkcaa.K1
open Go Go.RowKit Go.Proofs.Ytmfgajbkcnlkcaa.P Go.Proofs.YtmfgajbkcnlkcaaW.PrintWords Go.Proofs.YtmfgajbkcnlkcaaW.PrintLast Go.Proofs.Ytmfgajbkcnlkcaa.EV Go.Proofs.Ytmfgajbkcnlkcaa.C1 Go.Proofs.Ytmfgajbkcnlkcaa.C2 Go.Proofs.Ytmfgajbkcnlkcaa.B1 Go.Proofs.Ytmfgajbkcnlkcaa.B2
theorem Ev_walk (l : Nat → Int → Option Bool) (n : Nat) (G : Nat → Prop)
    (hs : ∀ i : Nat, i < n → (G i ∧ ∀ r, Ev (fun k => l k ((i + 1 : Nat) : Int)) r → Ev (fun k => l k (i : Int)) r) ∨ (¬ G i ∧ Ev (fun k => l k (i : Int)) false)) :
    ∀ (d i : Nat), n - i = d → i ≤ n → ((∀ j, i ≤ j → j < n → G j) ∧ ∀ r, Ev (fun k => l k (n : Int)) r → Ev (fun k => l k (i : Int)) r) ∨ (¬ (∀ j, i ≤ j → j < n → G j) ∧ Ev (fun k => l k (i : Int)) false) := by
  intro d
  induction d with
  | zero =>
    intro i hd hi
    obtain rfl : i = n := by omega
    exact .inl ⟨fun j h1 h2 => by omega, fun r hr => hr⟩
  | succ d ih =>
    intro i hd hi
    rcases hs i (by omega) with ⟨hg, he⟩ | ⟨hg, he⟩
    · rcases ih (i + 1) (by omega) (by omega) with ⟨h1, h2⟩ | ⟨h1, h2⟩
      · refine .inl ⟨fun j h3 h4 => ?_, fun r hr => he r (h2 r hr)⟩
        rcases Nat.eq_or_lt_of_le h3 with h5 | h5
        · exact h5 ▸ hg
        · exact h1 j h5 h4
      · exact .inr ⟨fun h => h1 fun j h3 h4 => h j (by omega) h4, he _ h2⟩
    · exact .inr ⟨fun h => hg (h i (Nat.le_refl _) (by omega)), he⟩
theorem told_z {n : Int} (h : n = 0) : told n true = (0, true) := by
  subst h
  unfold told
  rw [if_pos ⟨rfl, by unfold N1.Amt; omega⟩]
theorem told_nz {n : Int} (h : n ≠ 0) (g : (told n true).2 = true) : (told n true).1 ≠ 0 := by
  unfold told at g ⊢
  split at g
  · rename_i h1
    rw [if_pos h1]
    exact h
  · exact absurd g (by decide)
section
variable (A : List S88) (I : List S90) (B : List S93) (L : List S96) (T : List S50) (d : Int)
theorem kA_s {A : List S88} (hA : okA A = true) (m : A.length ≤ 9223372036854775807) (no : Int) : Ev (fun k => spec_AccountKind.f k A no) (kindA A no) := by
  have h := kindOkA_s A no m
  unfold kindOkA at h
  rwa [if_pos hA] at h
theorem kI_s {I : List S90} (hI : okI I = true) (m : I.length ≤ 9223372036854775807) (no : Int) : Ev (fun k => spec_InstrKind.f k I no) (kindI I no) := by
  have h := kindOkI_s I no m
  unfold kindOkI at h
  rwa [if_pos hI] at h
def GB (j : Nat) : Prop := kindA A (B.getD j z93).f0 ≠ 0 ∧ kindI I (B.getD j z93).f1 ≠ 0 ∧ ¬(kindA A (B.getD j z93).f0 = 1 ∧ (B.getD j z93).f2 < 0) ∧ sumB (B.getD j z93).f1 B = 0
theorem bals_s (hA : okA A = true) (hI : okI I = true) (hB : OkB B) (mA : A.length ≤ 9223372036854775807) (mI : I.length ≤ 9223372036854775807) : ∃ r, Ev (fun k => spec_l6Bals.f k A I B L T d) r ∧ (r = true ↔ ∀ j, j < B.length → GB A I B j) := by
  have hl := hB.1
  have eS : ∀ a, balsSum B a = told (sumB a B) true := fun a => by unfold balsSum; rw [if_pos ((okB_iff B).2 hB)]
  unfold spec_l6Bals.f
  obtain ⟨r, hr, hiff⟩ := Ev_asks' (fun k i => spec_l6Bals.l0 k i A I B L T d) B.length (GB A I B) true
    (Ev_one fun k => by simp only [spec_l6Bals.l0]; rw [if_neg (by omega)])
    (fun i hi => by
      obtain ⟨x, hx⟩ : ∃ x, B.getD i z93 = x := ⟨_, rfl⟩
      have e : ∀ k, spec_l6Bals.l0 (k + 1) (i : Int) A I B L T d = (spec_AccountKind.f k A x.f0).bind fun t => (if t = 0 then spec_l6Bals.j1 k (i : Int) true A I B L T d x.f0 x.f1 x.f2 else ((spec_InstrKind.f k I x.f1).bind fun u => if u = 0 then spec_l6Bals.j1 k (i : Int) true A I B L T d x.f0 x.f1 x.f2 else (if t = 1 then spec_l6Bals.j1 k (i : Int) (decide (x.f2 < 0)) A I B L T d x.f0 x.f1 x.f2 else spec_l6Bals.j1 k (i : Int) false A I B L T d x.f0 x.f1 x.f2))) := fun k => by
        simp only [spec_l6Bals.l0]
        rw [if_pos (by omega), if_pos (by omega)]
        simp only [rdB, hx]
      have et : Ev (fun k => spec_l6Bals.j1 k (i : Int) true A I B L T d x.f0 x.f1 x.f2) false := Ev_one fun k => by simp only [spec_l6Bals.j1]; rw [if_pos trivial]
      have ef : ∀ k, spec_l6Bals.j1 (k + 1) (i : Int) false A I B L T d x.f0 x.f1 x.f2 = (spec_BalsSum.f k B x.f1).bind fun bt => if bt.2 = true then (if bt.1 = 0 then spec_l6Bals.l0 k ((i + 1 : Nat) : Int) A I B L T d else some false) else some false := fun k => by
        simp only [spec_l6Bals.j1]
        rw [if_neg (by decide), w_succ hi (by omega)]
      have hf0 : sumB x.f1 B = 0 → ∀ r, Ev (fun k => spec_l6Bals.l0 k ((i + 1 : Nat) : Int) A I B L T d) r → Ev (fun k => spec_l6Bals.j1 k (i : Int) false A I B L T d x.f0 x.f1 x.f2) r := fun h r hr => by
        have q := balsSum_s B x.f1
        rw [eS, told_z h] at q
        exact Ev.step ef (Ev_bind q (Ev.congr (fun k => if_pos rfl) (Ev.congr (fun k => if_pos rfl) hr)))
      have hf1 : sumB x.f1 B ≠ 0 → Ev (fun k => spec_l6Bals.j1 k (i : Int) false A I B L T d x.f0 x.f1 x.f2) false := fun h => by
        have q := balsSum_s B x.f1
        rw [eS] at q
        refine Ev.step ef (Ev_bind q ?_)
        by_cases g : (told (sumB x.f1 B) true).2 = true
        · exact Ev.congr (fun k => if_pos g) (Ev_all_k fun k => if_neg (told_nz h g))
        · exact Ev_all_k fun k => if_neg g
      unfold GB
      rw [hx]
      by_cases h0 : kindA A x.f0 = 0
      · exact .inr ⟨fun g => g.1 h0, Ev.step e (Ev_bind (kA_s hA mA x.f0) (Ev.congr (fun k => if_pos h0) et))⟩
      · by_cases h1 : kindI I x.f1 = 0
        · exact .inr ⟨fun g => g.2.1 h1, Ev.step e (Ev_bind (kA_s hA mA x.f0) (Ev.congr (fun k => if_neg h0) (Ev_bind (kI_s hI mI x.f1) (Ev.congr (fun k => if_pos h1) et))))⟩
        · have mid : ∀ r, (Ev (fun k => if kindA A x.f0 = 1 then spec_l6Bals.j1 k (i : Int) (decide (x.f2 < 0)) A I B L T d x.f0 x.f1 x.f2 else spec_l6Bals.j1 k (i : Int) false A I B L T d x.f0 x.f1 x.f2) r) → Ev (fun k => spec_l6Bals.l0 k (i : Int) A I B L T d) r := fun r hr => Ev.step e (Ev_bind (kA_s hA mA x.f0) (Ev.congr (fun k => if_neg h0) (Ev_bind (kI_s hI mI x.f1) (Ev.congr (fun k => if_neg h1) hr))))
          by_cases h2 : kindA A x.f0 = 1 ∧ x.f2 < 0
          · exact .inr ⟨fun g => g.2.2.1 h2, mid _ (Ev.congr (fun k => by rw [if_pos h2.1, decide_eq_true h2.2]) et)⟩
          · have ej : ∀ k, (if kindA A x.f0 = 1 then spec_l6Bals.j1 k (i : Int) (decide (x.f2 < 0)) A I B L T d x.f0 x.f1 x.f2 else spec_l6Bals.j1 k (i : Int) false A I B L T d x.f0 x.f1 x.f2) = spec_l6Bals.j1 k (i : Int) false A I B L T d x.f0 x.f1 x.f2 := fun k => by
              by_cases h3 : kindA A x.f0 = 1
              · rw [if_pos h3, decide_eq_false (fun g => h2 ⟨h3, g⟩)]
              · rw [if_neg h3]
            by_cases h4 : sumB x.f1 B = 0
            · exact .inl ⟨⟨h0, h1, h2, h4⟩, fun r hr => mid r (Ev.congr ej (hf0 h4 r hr))⟩
            · exact .inr ⟨fun g => h4 g.2.2.2, mid _ (Ev.congr ej (hf1 h4))⟩) B.length 0 (by omega) (by omega)
  refine ⟨r, hr, ?_⟩
  rw [hiff]
  exact ⟨fun h i hi => h.1 i (Nat.zero_le _) hi, fun h => ⟨fun i _ hi => h i hi, rfl⟩⟩
theorem bals_i (hB : OkB B) (mA : A.length ≤ 9223372036854775807) (mI : I.length ≤ 9223372036854775807) : ∃ r, Ev (fun k => impl_balsRight.f k A I B L T d) r ∧ (r = true ↔ ∀ j, j < B.length → GB A I B j) := by
  have hl := hB.1
  unfold impl_balsRight.f
  obtain ⟨r, hr, hiff⟩ := Ev_asks' (fun k i => impl_balsRight.l0 k B (B.length : Int) i A I B L T d) B.length (GB A I B) true
    (Ev_one fun k => by simp only [impl_balsRight.l0]; rw [if_neg (by omega)])
    (fun i hi => by
      obtain ⟨x, hx⟩ : ∃ x, B.getD i z93 = x := ⟨_, rfl⟩
      have e : ∀ k, impl_balsRight.l0 (k + 1) B (B.length : Int) (i : Int) A I B L T d = (impl_accountKind.f k A x.f0).bind fun t => (if t = 0 then some false else ((impl_instrKind.f k I x.f1).bind fun u => if u = 0 then some false else (if t = 1 then (if x.f2 < 0 then some false else ((impl_balsSum.f k B x.f1).bind fun s => if s = 0 then impl_balsRight.l0 k B (B.length : Int) ((i + 1 : Nat) : Int) A I B L T d else some false)) else ((impl_balsSum.f k B x.f1).bind fun s => if s = 0 then impl_balsRight.l0 k B (B.length : Int) ((i + 1 : Nat) : Int) A I B L T d else some false)))) := fun k => by
        simp only [impl_balsRight.l0]
        rw [if_pos (by omega), if_pos (by omega), if_pos (by omega), w_succ hi (by omega)]
        simp only [rdB, hx]
      have hf0 : sumB x.f1 B = 0 → ∀ r, Ev (fun k => impl_balsRight.l0 k B (B.length : Int) ((i + 1 : Nat) : Int) A I B L T d) r → Ev (fun k => (impl_balsSum.f k B x.f1).bind fun s => if s = 0 then impl_balsRight.l0 k B (B.length : Int) ((i + 1 : Nat) : Int) A I B L T d else some false) r := fun h r hr => Ev_bind (sum_i hB x.f1) (Ev.congr (fun k => if_pos h) hr)
      have hf1 : sumB x.f1 B ≠ 0 → Ev (fun k => (impl_balsSum.f k B x.f1).bind fun s => if s = 0 then impl_balsRight.l0 k B (B.length : Int) ((i + 1 : Nat) : Int) A I B L T d else some false) false := fun h => Ev_bind (sum_i hB x.f1) (Ev_all_k fun k => if_neg h)
      unfold GB
      rw [hx]
      by_cases h0 : kindA A x.f0 = 0
      · exact .inr ⟨fun g => g.1 h0, Ev.step e (Ev_bind (kindL_i A x.f0 mA) (Ev_all_k fun k => if_pos h0))⟩
      · by_cases h1 : kindI I x.f1 = 0
        · exact .inr ⟨fun g => g.2.1 h1, Ev.step e (Ev_bind (kindL_i A x.f0 mA) (Ev.congr (fun k => if_neg h0) (Ev_bind (kindM_i I x.f1 mI) (Ev_all_k fun k => if_pos h1))))⟩
        · have mid : ∀ r, (Ev (fun k => if kindA A x.f0 = 1 then (if x.f2 < 0 then some false else ((impl_balsSum.f k B x.f1).bind fun s => if s = 0 then impl_balsRight.l0 k B (B.length : Int) ((i + 1 : Nat) : Int) A I B L T d else some false)) else ((impl_balsSum.f k B x.f1).bind fun s => if s = 0 then impl_balsRight.l0 k B (B.length : Int) ((i + 1 : Nat) : Int) A I B L T d else some false)) r) → Ev (fun k => impl_balsRight.l0 k B (B.length : Int) (i : Int) A I B L T d) r := fun r hr => Ev.step e (Ev_bind (kindL_i A x.f0 mA) (Ev.congr (fun k => if_neg h0) (Ev_bind (kindM_i I x.f1 mI) (Ev.congr (fun k => if_neg h1) hr))))
          by_cases h2 : kindA A x.f0 = 1 ∧ x.f2 < 0
          · exact .inr ⟨fun g => g.2.2.1 h2, mid _ (Ev_all_k fun k => by rw [if_pos h2.1, if_pos h2.2])⟩
          · have ej : ∀ k, (if kindA A x.f0 = 1 then (if x.f2 < 0 then some false else ((impl_balsSum.f k B x.f1).bind fun s => if s = 0 then impl_balsRight.l0 k B (B.length : Int) ((i + 1 : Nat) : Int) A I B L T d else some false)) else ((impl_balsSum.f k B x.f1).bind fun s => if s = 0 then impl_balsRight.l0 k B (B.length : Int) ((i + 1 : Nat) : Int) A I B L T d else some false)) = ((impl_balsSum.f k B x.f1).bind fun s => if s = 0 then impl_balsRight.l0 k B (B.length : Int) ((i + 1 : Nat) : Int) A I B L T d else some false) := fun k => by
              by_cases h3 : kindA A x.f0 = 1
              · rw [if_pos h3, if_neg (fun g => h2 ⟨h3, g⟩)]
              · rw [if_neg h3]
            by_cases h4 : sumB x.f1 B = 0
            · exact .inl ⟨⟨h0, h1, h2, h4⟩, fun r hr => mid r (Ev.congr ej (hf0 h4 r hr))⟩
            · exact .inr ⟨fun g => h4 g.2.2.2, mid _ (Ev.congr ej (hf1 h4))⟩) B.length 0 (by omega) (by omega)
  refine ⟨r, hr, ?_⟩
  rw [hiff]
  exact ⟨fun h i hi => h.1 i (Nat.zero_le _) hi, fun h => ⟨fun i _ hi => h i hi, rfl⟩⟩
def GL (j : Nat) : Prop := kindA A (L.getD j z96).f0 = 1 ∧ kindI I (L.getD j z96).f1 = 2 ∧ ¬((L.getD j z96).f2 > d)
def GQ (i j : Nat) : Prop := ((A.getD i z88).f1 = 1 ∧ (I.getD j z90).f1 = 2) → impl_LotsOk.sum3 (E2.ofL (A.getD i z88).f0 (I.getD j z90).f0 L) 0 = ofB (A.getD i z88).f0 (I.getD j z90).f0 B
def GP (i : Nat) : Prop := ∀ j, 0 ≤ j → j < I.length → GQ A I B L i j
theorem lots_s (hA : okA A = true) (hI : okI I = true) (mA : A.length ≤ 1048576) (mI : I.length ≤ 1048576) (mB : B.length ≤ 1048576) (mL : L.length ≤ 1048576) : ∃ r, Ev (fun k => spec_l6Lots.f k A I B L T d) r ∧ (r = true ↔ (∀ j, j < L.length → GL A I L d j) ∧ ∀ i, i < A.length → GP A I B L i) := by
  have two : ∀ i : Nat, i < A.length → ((∀ j, 0 ≤ j → j < I.length → GQ A I B L i j) ∧ ∀ r, Ev (fun k => spec_l6Lots.l2 k (i : Int) (I.length : Int) A I B L T d) r → Ev (fun k => spec_l6Lots.l2 k (i : Int) ((0 : Nat) : Int) A I B L T d) r) ∨ (¬(∀ j, 0 ≤ j → j < I.length → GQ A I B L i j) ∧ Ev (fun k => spec_l6Lots.l2 k (i : Int) ((0 : Nat) : Int) A I B L T d) false) := fun i hi =>
    Ev_walk (fun k j => spec_l6Lots.l2 k (i : Int) j A I B L T d) I.length (GQ A I B L i) (fun j hj => by
      obtain ⟨x, hx⟩ : ∃ x, A.getD i z88 = x := ⟨_, rfl⟩
      obtain ⟨y, hy⟩ : ∃ y, I.getD j z90 = y := ⟨_, rfl⟩
      have e : ∀ k, spec_l6Lots.l2 (k + 1) (i : Int) (j : Int) A I B L T d = if x.f1 = 1 then spec_l6Lots.j3 k (i : Int) (j : Int) (y.f1 == 2) A I B L T d else spec_l6Lots.j3 k (i : Int) (j : Int) false A I B L T d := fun k => by
        simp only [spec_l6Lots.l2]
        rw [if_pos (by omega), if_pos (by omega), if_pos (by omega)]
        simp only [rdA, rdI, hx, hy]
        split
        · rw [if_pos (by omega)]
        · rfl
      have ef : ∀ k, spec_l6Lots.j3 (k + 1) (i : Int) (j : Int) false A I B L T d = spec_l6Lots.l2 k (i : Int) ((j + 1 : Nat) : Int) A I B L T d := fun k => by
        simp only [spec_l6Lots.j3]
        rw [if_neg (by decide), w_succ hj (by omega)]
      have et : ∀ k, spec_l6Lots.j3 (k + 1) (i : Int) (j : Int) true A I B L T d = (spec_l5Split.f k L x.f0 y.f0).bind fun bt => ((spec_l5Qty.f k bt.1).bind fun q => ((spec_l4Of.f k B x.f0 y.f0).bind fun b => (if q = b then spec_l6Lots.l2 k (i : Int) ((j + 1 : Nat) : Int) A I B L T d else some false))) := fun k => by
        simp only [spec_l6Lots.j3]
        rw [if_pos trivial, if_pos (by omega), if_pos (by omega), if_pos (by omega), if_pos (by omega), w_succ hj (by omega)]
        simp only [rdA, rdI, hx, hy]
      unfold GQ
      rw [hx, hy]
      by_cases h1 : x.f1 = 1 ∧ y.f1 = 2
      · have mid : ∀ r, Ev (fun k => if impl_LotsOk.sum3 (E2.ofL x.f0 y.f0 L) 0 = ofB x.f0 y.f0 B then spec_l6Lots.l2 k (i : Int) ((j + 1 : Nat) : Int) A I B L T d else some false) r → Ev (fun k => spec_l6Lots.l2 k (i : Int) (j : Int) A I B L T d) r := fun r hr =>
          Ev.step e (Ev.congr (fun k => by rw [if_pos h1.1, show (y.f1 == 2) = true from beq_iff_eq.2 h1.2]) (Ev.step et (Ev_bind (E2.split_s L x.f0 y.f0 (by omega)) (Ev_bind (E2.qty_s (E2.ofL x.f0 y.f0 L) (by have := E2.of_len x.f0 y.f0 L; omega)) (Ev_bind (of_s B x.f0 y.f0 (by omega)) hr)))))
        by_cases h2 : impl_LotsOk.sum3 (E2.ofL x.f0 y.f0 L) 0 = ofB x.f0 y.f0 B
        · exact .inl ⟨fun _ => h2, fun r hr => mid r (Ev.congr (fun k => if_pos h2) hr)⟩
        · exact .inr ⟨fun g => h2 (g h1), mid _ (Ev_all_k fun k => if_neg h2)⟩
      · refine .inl ⟨fun g => absurd g h1, fun r hr => Ev.step e (Ev.congr (f := fun k => spec_l6Lots.j3 k (i : Int) (j : Int) false A I B L T d) (fun k => ?_) (Ev.step ef hr))⟩
        by_cases h3 : x.f1 = 1
        · rw [if_pos h3, show (y.f1 == 2) = false from beq_eq_false_iff_ne.2 (fun g => h1 ⟨h3, g⟩)]
        · rw [if_neg h3]) I.length 0 (by omega) (by omega)
  obtain ⟨r1, hr1, hiff1⟩ := Ev_asks' (fun k i => spec_l6Lots.l1 k i A I B L T d) A.length (GP A I B L) true
    (Ev_one fun k => by simp only [spec_l6Lots.l1]; rw [if_neg (by omega)])
    (fun i hi => by
      have e : ∀ k, spec_l6Lots.l1 (k + 1) (i : Int) A I B L T d = spec_l6Lots.l2 k (i : Int) ((0 : Nat) : Int) A I B L T d := fun k => by
        simp only [spec_l6Lots.l1]
        rw [if_pos (by omega)]
        rfl
      rcases two i hi with ⟨h1, h2⟩ | ⟨h1, h2⟩
      · exact .inl ⟨h1, fun r hr => Ev.step e (h2 r (Ev.step (fun k => by simp only [spec_l6Lots.l2]; rw [if_neg (by omega), w_succ hi (by omega)]) hr))⟩
      · exact .inr ⟨h1, Ev.step e h2⟩) A.length 0 (by omega) (by omega)
  unfold spec_l6Lots.f
  obtain ⟨r, hr, hiff⟩ := Ev_asks' (fun k i => spec_l6Lots.l0 k i A I B L T d) L.length (GL A I L d) r1
    (Ev.step (fun k => by simp only [spec_l6Lots.l0]; rw [if_neg (by omega)]; rfl) hr1)
    (fun i hi => by
      obtain ⟨x, hx⟩ : ∃ x, L.getD i z96 = x := ⟨_, rfl⟩
      have e : ∀ k, spec_l6Lots.l0 (k + 1) (i : Int) A I B L T d = (spec_AccountKind.f k A x.f0).bind fun t => (if t = 1 then ((spec_InstrKind.f k I x.f1).bind fun u => if u = 2 then (if x.f2 > d then some false else spec_l6Lots.l0 k ((i + 1 : Nat) : Int) A I B L T d) else some false) else some false) := fun k => by
        simp only [spec_l6Lots.l0]
        rw [if_pos (by omega), if_pos (by omega), w_succ hi (by omega)]
        simp only [E1.rdL, hx]
      unfold GL
      rw [hx]
      by_cases h0 : kindA A x.f0 = 1
      · by_cases h1 : kindI I x.f1 = 2
        · have mid : ∀ r, Ev (fun k => if x.f2 > d then some false else spec_l6Lots.l0 k ((i + 1 : Nat) : Int) A I B L T d) r → Ev (fun k => spec_l6Lots.l0 k (i : Int) A I B L T d) r := fun r hr => Ev.step e (Ev_bind (kA_s hA (by omega) x.f0) (Ev.congr (fun k => if_pos h0) (Ev_bind (kI_s hI (by omega) x.f1) (Ev.congr (fun k => if_pos h1) hr))))
          by_cases h2 : x.f2 > d
          · exact .inr ⟨fun g => g.2.2 h2, mid _ (Ev_all_k fun k => if_pos h2)⟩
          · exact .inl ⟨⟨h0, h1, h2⟩, fun r hr => mid r (Ev.congr (fun k => if_neg h2) hr)⟩
        · exact .inr ⟨fun g => h1 g.2.1, Ev.step e (Ev_bind (kA_s hA (by omega) x.f0) (Ev.congr (fun k => if_pos h0) (Ev_bind (kI_s hI (by omega) x.f1) (Ev_all_k fun k => if_neg h1))))⟩
      · exact .inr ⟨fun g => h0 g.1, Ev.step e (Ev_bind (kA_s hA (by omega) x.f0) (Ev_all_k fun k => if_neg h0))⟩) L.length 0 (by omega) (by omega)
  refine ⟨r, hr, ?_⟩
  rw [hiff, hiff1]
  exact ⟨fun h => ⟨fun i hi => h.1 i (Nat.zero_le _) hi, fun i hi => h.2.1 i (Nat.zero_le _) hi⟩, fun h => ⟨fun i _ hi => h.1 i hi, fun i _ hi => h.2 i hi, rfl⟩⟩
theorem lots_i (hB : OkB B) (mA : A.length ≤ 1048576) (mI : I.length ≤ 1048576) (mL : L.length ≤ 1048576) : ∃ r, Ev (fun k => impl_lotsRight.f k A I B L T d) r ∧ (r = true ↔ (∀ j, j < L.length → GL A I L d j) ∧ ∀ i, i < A.length → GP A I B L i) := by
  have two : ∀ i : Nat, i < A.length → ((∀ j, 0 ≤ j → j < I.length → GQ A I B L i j) ∧ ∀ r, Ev (fun k => impl_lotsRight.l2 k A (A.length : Int) (i : Int) I (I.length : Int) (I.length : Int) A I B L T d (A.getD i z88).f0 (A.getD i z88).f1) r → Ev (fun k => impl_lotsRight.l2 k A (A.length : Int) (i : Int) I (I.length : Int) ((0 : Nat) : Int) A I B L T d (A.getD i z88).f0 (A.getD i z88).f1) r) ∨ (¬(∀ j, 0 ≤ j → j < I.length → GQ A I B L i j) ∧ Ev (fun k => impl_lotsRight.l2 k A (A.length : Int) (i : Int) I (I.length : Int) ((0 : Nat) : Int) A I B L T d (A.getD i z88).f0 (A.getD i z88).f1) false) := fun i hi =>
    Ev_walk (fun k j => impl_lotsRight.l2 k A (A.length : Int) (i : Int) I (I.length : Int) j A I B L T d (A.getD i z88).f0 (A.getD i z88).f1) I.length (GQ A I B L i) (fun j hj => by
      obtain ⟨x, hx⟩ : ∃ x, A.getD i z88 = x := ⟨_, rfl⟩
      obtain ⟨y, hy⟩ : ∃ y, I.getD j z90 = y := ⟨_, rfl⟩
      rw [hx]
      have e : ∀ k, impl_lotsRight.l2 (k + 1) A (A.length : Int) (i : Int) I (I.length : Int) (j : Int) A I B L T d x.f0 x.f1 = if x.f1 = 1 then impl_lotsRight.j3 k A (A.length : Int) (i : Int) I (I.length : Int) (j : Int) (y.f1 != 2) A I B L T d x.f0 x.f1 y.f0 y.f1 else impl_lotsRight.j3 k A (A.length : Int) (i : Int) I (I.length : Int) (j : Int) true A I B L T d x.f0 x.f1 y.f0 y.f1 := fun k => by
        simp only [impl_lotsRight.l2]
        rw [if_pos (by omega), if_pos (by omega), if_pos (by omega)]
        simp only [rdI, hy]
      have ef : ∀ k, impl_lotsRight.j3 (k + 1) A (A.length : Int) (i : Int) I (I.length : Int) (j : Int) true A I B L T d x.f0 x.f1 y.f0 y.f1 = impl_lotsRight.l2 k A (A.length : Int) (i : Int) I (I.length : Int) ((j + 1 : Nat) : Int) A I B L T d x.f0 x.f1 := fun k => by
        simp only [impl_lotsRight.j3]
        rw [if_pos trivial, w_succ hj (by omega)]
      have et : ∀ k, impl_lotsRight.j3 (k + 1) A (A.length : Int) (i : Int) I (I.length : Int) (j : Int) false A I B L T d x.f0 x.f1 y.f0 y.f1 = (impl_sumLots.f k (E2.ofL x.f0 y.f0 L)).bind fun bt => ((impl_balOf.f k B x.f0 y.f0).bind fun b => (if bt.1 = b then impl_lotsRight.l2 k A (A.length : Int) (i : Int) I (I.length : Int) ((j + 1 : Nat) : Int) A I B L T d x.f0 x.f1 else some false)) := fun k => by
        simp only [impl_lotsRight.j3]
        rw [if_neg (by decide), w_succ hj (by omega), show impl_lotsOf.f L x.f0 y.f0 = some (E2.ofL x.f0 y.f0 L) from if_pos (by omega), Option.bind_some]
      unfold GQ
      rw [hx, hy]
      by_cases h1 : x.f1 = 1 ∧ y.f1 = 2
      · have mid : ∀ r, Ev (fun k => if impl_LotsOk.sum3 (E2.ofL x.f0 y.f0 L) 0 = ofB x.f0 y.f0 B then impl_lotsRight.l2 k A (A.length : Int) (i : Int) I (I.length : Int) ((j + 1 : Nat) : Int) A I B L T d x.f0 x.f1 else some false) r → Ev (fun k => impl_lotsRight.l2 k A (A.length : Int) (i : Int) I (I.length : Int) (j : Int) A I B L T d x.f0 x.f1) r := fun r hr =>
          Ev.step e (Ev.congr (fun k => by rw [if_pos h1.1, show (y.f1 != 2) = false by rw [h1.2]; rfl]) (Ev.step et (Ev_bind (E2.sums_i (E2.ofL x.f0 y.f0 L) (by have := E2.of_len x.f0 y.f0 L; omega)) (Ev_bind (of_i hB x.f0 y.f0) hr))))
        by_cases h2 : impl_LotsOk.sum3 (E2.ofL x.f0 y.f0 L) 0 = ofB x.f0 y.f0 B
        · exact .inl ⟨fun _ => h2, fun r hr => mid r (Ev.congr (fun k => if_pos h2) hr)⟩
        · exact .inr ⟨fun g => h2 (g h1), mid _ (Ev_all_k fun k => if_neg h2)⟩
      · refine .inl ⟨fun g => absurd g h1, fun r hr => Ev.step e (Ev.congr (f := fun k => impl_lotsRight.j3 k A (A.length : Int) (i : Int) I (I.length : Int) (j : Int) true A I B L T d x.f0 x.f1 y.f0 y.f1) (fun k => ?_) (Ev.step ef hr))⟩
        by_cases h3 : x.f1 = 1
        · rw [if_pos h3, show (y.f1 != 2) = true from bne_iff_ne.2 (fun g => h1 ⟨h3, g⟩)]
        · rw [if_neg h3]) I.length 0 (by omega) (by omega)
  obtain ⟨r1, hr1, hiff1⟩ := Ev_asks' (fun k i => impl_lotsRight.l1 k A (A.length : Int) i A I B L T d) A.length (GP A I B L) true
    (Ev_one fun k => by simp only [impl_lotsRight.l1]; rw [if_neg (by omega)])
    (fun i hi => by
      have e : ∀ k, impl_lotsRight.l1 (k + 1) A (A.length : Int) (i : Int) A I B L T d = impl_lotsRight.l2 k A (A.length : Int) (i : Int) I (I.length : Int) ((0 : Nat) : Int) A I B L T d (A.getD i z88).f0 (A.getD i z88).f1 := fun k => by
        simp only [impl_lotsRight.l1]
        rw [if_pos (by omega), if_pos (by omega), if_pos (by omega)]
        simp only [rdA]
        rfl
      rcases two i hi with ⟨h1, h2⟩ | ⟨h1, h2⟩
      · exact .inl ⟨h1, fun r hr => Ev.step e (h2 r (Ev.step (fun k => by simp only [impl_lotsRight.l2]; rw [if_neg (by omega), w_succ hi (by omega)]) hr))⟩
      · exact .inr ⟨h1, Ev.step e h2⟩) A.length 0 (by omega) (by omega)
  unfold impl_lotsRight.f
  obtain ⟨r, hr, hiff⟩ := Ev_asks' (fun k i => impl_lotsRight.l0 k L (L.length : Int) i A I B L T d) L.length (GL A I L d) r1
    (Ev.step (fun k => by simp only [impl_lotsRight.l0]; rw [if_neg (by omega)]; rfl) hr1)
    (fun i hi => by
      obtain ⟨x, hx⟩ : ∃ x, L.getD i z96 = x := ⟨_, rfl⟩
      have e : ∀ k, impl_lotsRight.l0 (k + 1) L (L.length : Int) (i : Int) A I B L T d = (impl_accountKind.f k A x.f0).bind fun t => (if t = 1 then ((impl_instrKind.f k I x.f1).bind fun u => if u = 2 then (if x.f2 > d then some false else impl_lotsRight.l0 k L (L.length : Int) ((i + 1 : Nat) : Int) A I B L T d) else some false) else some false) := fun k => by
        simp only [impl_lotsRight.l0]
        rw [if_pos (by omega), if_pos (by omega), if_pos (by omega), w_succ hi (by omega)]
        simp only [E1.rdL, hx]
      unfold GL
      rw [hx]
      by_cases h0 : kindA A x.f0 = 1
      · by_cases h1 : kindI I x.f1 = 2
        · have mid : ∀ r, Ev (fun k => if x.f2 > d then some false else impl_lotsRight.l0 k L (L.length : Int) ((i + 1 : Nat) : Int) A I B L T d) r → Ev (fun k => impl_lotsRight.l0 k L (L.length : Int) (i : Int) A I B L T d) r := fun r hr => Ev.step e (Ev_bind (kindL_i A x.f0 (by omega)) (Ev.congr (fun k => if_pos h0) (Ev_bind (kindM_i I x.f1 (by omega)) (Ev.congr (fun k => if_pos h1) hr))))
          by_cases h2 : x.f2 > d
          · exact .inr ⟨fun g => g.2.2 h2, mid _ (Ev_all_k fun k => if_pos h2)⟩
          · exact .inl ⟨⟨h0, h1, h2⟩, fun r hr => mid r (Ev.congr (fun k => if_neg h2) hr)⟩
        · exact .inr ⟨fun g => h1 g.2.1, Ev.step e (Ev_bind (kindL_i A x.f0 (by omega)) (Ev.congr (fun k => if_pos h0) (Ev_bind (kindM_i I x.f1 (by omega)) (Ev_all_k fun k => if_neg h1))))⟩
      · exact .inr ⟨fun g => h0 g.1, Ev.step e (Ev_bind (kindL_i A x.f0 (by omega)) (Ev_all_k fun k => if_neg h0))⟩) L.length 0 (by omega) (by omega)
  refine ⟨r, hr, ?_⟩
  rw [hiff, hiff1]
  exact ⟨fun h => ⟨fun i hi => h.1 i (Nat.zero_le _) hi, fun i hi => h.2.1 i (Nat.zero_le _) hi⟩, fun h => ⟨fun i _ hi => h.1 i hi, fun i _ hi => h.2 i hi, rfl⟩⟩
def GT (x : S50) : Prop := kindA A x.f1 = 1 ∧ kindA A x.f2 = 1 ∧ kindI I x.f3 = 2 ∧ kindI I x.f5 = 1
theorem trades_s (hA : okA A = true) (hI : okI I = true) (mA : A.length ≤ 1048576) (mI : I.length ≤ 1048576) (mT : T.length ≤ 1048576) : ∃ r, Ev (fun k => spec_BooksOk.j0 k false A I B L T d) r ∧ (r = true ↔ ∀ j, j < T.length → GT A I (T.getD j z50)) := by
  obtain ⟨r, hr, hiff⟩ := Ev_asks' (fun k i => spec_BooksOk.l0 k i A I B L T d) T.length (fun j => GT A I (T.getD j z50)) true
    (Ev_one fun k => by simp only [spec_BooksOk.l0]; rw [if_neg (by omega)])
    (fun i hi => by
      obtain ⟨x, hx⟩ : ∃ x, T.getD i z50 = x := ⟨_, rfl⟩
      have e : ∀ k, spec_BooksOk.l0 (k + 1) (i : Int) A I B L T d = (spec_AccountKind.f k A x.f1).bind fun t => (if t = 1 then ((spec_AccountKind.f k A x.f2).bind fun t2 => if t2 = 1 then ((spec_InstrKind.f k I x.f3).bind fun u => if u = 2 then ((spec_InstrKind.f k I x.f5).bind fun u2 => if u2 = 1 then spec_BooksOk.l0 k ((i + 1 : Nat) : Int) A I B L T d else some false) else some false) else some false) else some false) := fun k => by
        simp only [spec_BooksOk.l0]
        rw [if_pos (by omega), if_pos (by omega), w_succ hi (by omega)]
        simp only [F1.rdT, hx]
      show (GT A I (T.getD i z50) ∧ _) ∨ (¬GT A I (T.getD i z50) ∧ _)
      rw [hx]
      unfold GT
      by_cases h0 : kindA A x.f1 = 1
      · by_cases h1 : kindA A x.f2 = 1
        · by_cases h2 : kindI I x.f3 = 2
          · by_cases h3 : kindI I x.f5 = 1
            · exact .inl ⟨⟨h0, h1, h2, h3⟩, fun r hr => Ev.step e (Ev_bind (kA_s hA (by omega) x.f1) (Ev.congr (fun k => if_pos h0) (Ev_bind (kA_s hA (by omega) x.f2) (Ev.congr (fun k => if_pos h1) (Ev_bind (kI_s hI (by omega) x.f3) (Ev.congr (fun k => if_pos h2) (Ev_bind (kI_s hI (by omega) x.f5) (Ev.congr (fun k => if_pos h3) hr))))))))⟩
            · exact .inr ⟨fun g => h3 g.2.2.2, Ev.step e (Ev_bind (kA_s hA (by omega) x.f1) (Ev.congr (fun k => if_pos h0) (Ev_bind (kA_s hA (by omega) x.f2) (Ev.congr (fun k => if_pos h1) (Ev_bind (kI_s hI (by omega) x.f3) (Ev.congr (fun k => if_pos h2) (Ev_bind (kI_s hI (by omega) x.f5) (Ev_all_k fun k => if_neg h3))))))))⟩
          · exact .inr ⟨fun g => h2 g.2.2.1, Ev.step e (Ev_bind (kA_s hA (by omega) x.f1) (Ev.congr (fun k => if_pos h0) (Ev_bind (kA_s hA (by omega) x.f2) (Ev.congr (fun k => if_pos h1) (Ev_bind (kI_s hI (by omega) x.f3) (Ev_all_k fun k => if_neg h2))))))⟩
        · exact .inr ⟨fun g => h1 g.2.1, Ev.step e (Ev_bind (kA_s hA (by omega) x.f1) (Ev.congr (fun k => if_pos h0) (Ev_bind (kA_s hA (by omega) x.f2) (Ev_all_k fun k => if_neg h1))))⟩
      · exact .inr ⟨fun g => h0 g.1, Ev.step e (Ev_bind (kA_s hA (by omega) x.f1) (Ev_all_k fun k => if_neg h0))⟩) T.length 0 (by omega) (by omega)
  refine ⟨r, Ev.step (fun k => by simp only [spec_BooksOk.j0]; rw [if_neg (by decide)]; rfl) hr, ?_⟩
  rw [hiff]
  exact ⟨fun h i hi => h.1 i (Nat.zero_le _) hi, fun h => ⟨fun i _ hi => h i hi, rfl⟩⟩
theorem ak_is (no : Int) : ∀ A : List S88, impl_tradesRight.ak A no = kindA A no
  | [] => rfl
  | x :: xs => by
    unfold impl_tradesRight.ak kindA
    rw [ak_is no xs]
theorem ik_is (no : Int) : ∀ I : List S90, impl_tradesRight.ik I no = kindI I no
  | [] => rfl
  | x :: xs => by
    unfold impl_tradesRight.ik kindI
    rw [ik_is no xs]
theorem bad_iff (x : S50) : impl_tradesRight.bad A I x = false ↔ GT A I x := by
  unfold impl_tradesRight.bad GT
  simp only [ak_is, ik_is, Bool.or_eq_false_iff, bne_eq_false_iff_eq, and_assoc]
theorem trades_i (mA : A.length ≤ 1048576) (mI : I.length ≤ 1048576) : ∃ r, impl_tradesRight.f A I B L T d = some r ∧ (r = true ↔ ∀ j, j < T.length → GT A I (T.getD j z50)) := by
  refine ⟨_, if_pos ⟨by omega, by omega⟩, ?_⟩
  rw [Bool.not_eq_true', List.any_eq_false]
  constructor
  · intro h j hj
    have hm : T.getD j z50 ∈ T := by
      rw [List.getD_eq_getElem?_getD, List.getElem?_eq_getElem hj]
      exact List.getElem_mem hj
    exact (bad_iff A I _).1 (Bool.eq_false_iff.2 (h _ hm))
  · intro h x hx
    obtain ⟨j, hj, e⟩ := List.mem_iff_getElem.1 hx
    have g := h j hj
    rw [List.getD_eq_getElem?_getD, List.getElem?_eq_getElem hj, Option.getD_some, e] at g
    exact Bool.eq_false_iff.1 ((bad_iff A I x).2 g)
theorem books_both (mA : A.length ≤ 1048576) (mI : I.length ≤ 1048576) (mB : B.length ≤ 1048576) (mL : L.length ≤ 1048576) (mT : T.length ≤ 1048576) : ∃ r, Ev (fun k => spec_BooksOk.f k A I B L T d) r ∧ Ev (fun k => impl_BooksOk.f k A I B L T d) r := by
  unfold spec_BooksOk.f impl_BooksOk.f
  have sS : Ev (fun k => spec_BooksOk.j0 k true A I B L T d) false := Ev_one fun k => by simp only [spec_BooksOk.j0]; rw [if_pos trivial]
  have sI : Ev (fun k => impl_BooksOk.j0 k true A I B L T d) false := Ev_one fun k => by simp only [impl_BooksOk.j0]; rw [if_pos trivial]
  have s1 := accountsOk_s A
  have i1 := accountsOk_i A (by omega)
  have s2 := instrsOk_s I
  have i2 := instrsOk_i I (by omega)
  have s3 := balsOk_s B
  have i3 := balsOk_i B (by omega)
  have s4 := E1.lotsOk_s L
  have i4 : Ev (fun _ => impl_LotsOk.f L) (impl_LotsOk.ok L) := Ev_all_k fun _ => by unfold impl_LotsOk.f; rw [if_pos (by omega)]
  obtain ⟨rT, s5, i5⟩ := F1.trades_both T (by omega)
  have s6 : Ev (fun _ => spec_l1In.f d 0 1000000000) (decide (0 ≤ d ∧ d ≤ 1000000000)) := Ev_all_k fun _ => I1.in_s _ _ _
  have i6 : Ev (fun _ => impl_in.f d 0 1000000000) (decide (0 ≤ d ∧ d ≤ 1000000000)) := Ev_all_k fun _ => I1.in_i _ _ _
  cases q1 : okA A with
  | false =>
    rw [q1] at s1 i1
    exact ⟨false, Ev_bind s1 (Ev.congr (fun k => if_neg (by decide)) sS), Ev_bind i1 (Ev.congr (fun k => if_neg (by decide)) sI)⟩
  | true =>
    rw [q1] at s1 i1
    cases q2 : okI I with
    | false =>
      rw [q2] at s2 i2
      exact ⟨false, Ev_bind s1 (Ev.congr (fun k => if_pos rfl) (Ev_bind s2 (Ev.congr (fun k => if_neg (by decide)) sS))), Ev_bind i1 (Ev.congr (fun k => if_pos rfl) (Ev_bind i2 (Ev.congr (fun k => if_neg (by decide)) sI)))⟩
    | true =>
      rw [q2] at s2 i2
      cases q3 : okB B with
      | false =>
        rw [q3] at s3 i3
        exact ⟨false, Ev_bind s1 (Ev.congr (fun k => if_pos rfl) (Ev_bind s2 (Ev.congr (fun k => if_pos rfl) (Ev_bind s3 (Ev.congr (fun k => if_neg (by decide)) sS))))), Ev_bind i1 (Ev.congr (fun k => if_pos rfl) (Ev_bind i2 (Ev.congr (fun k => if_pos rfl) (Ev_bind i3 (Ev.congr (fun k => if_neg (by decide)) sI)))))⟩
      | true =>
        rw [q3] at s3 i3
        cases q4 : impl_LotsOk.ok L with
        | false =>
          rw [q4] at s4 i4
          exact ⟨false, Ev_bind s1 (Ev.congr (fun k => if_pos rfl) (Ev_bind s2 (Ev.congr (fun k => if_pos rfl) (Ev_bind s3 (Ev.congr (fun k => if_pos rfl) (Ev_bind s4 (Ev.congr (fun k => if_neg (by decide)) sS))))))), Ev_bind i1 (Ev.congr (fun k => if_pos rfl) (Ev_bind i2 (Ev.congr (fun k => if_pos rfl) (Ev_bind i3 (Ev.congr (fun k => if_pos rfl) (Ev_bind i4 (Ev.congr (fun k => if_neg (by decide)) sI)))))))⟩
        | true =>
          rw [q4] at s4 i4
          cases q5 : rT with
          | false =>
            rw [q5] at s5 i5
            exact ⟨false, Ev_bind s1 (Ev.congr (fun k => if_pos rfl) (Ev_bind s2 (Ev.congr (fun k => if_pos rfl) (Ev_bind s3 (Ev.congr (fun k => if_pos rfl) (Ev_bind s4 (Ev.congr (fun k => if_pos rfl) (Ev_bind s5 (Ev.congr (fun k => if_neg (by decide)) sS))))))))), Ev_bind i1 (Ev.congr (fun k => if_pos rfl) (Ev_bind i2 (Ev.congr (fun k => if_pos rfl) (Ev_bind i3 (Ev.congr (fun k => if_pos rfl) (Ev_bind i4 (Ev.congr (fun k => if_pos rfl) (Ev_bind i5 (Ev.congr (fun k => if_neg (by decide)) sI)))))))))⟩
          | true =>
            rw [q5] at s5 i5
            cases q6 : decide (0 ≤ d ∧ d ≤ 1000000000) with
            | false =>
              rw [q6] at s6 i6
              exact ⟨false, Ev_bind s1 (Ev.congr (fun k => if_pos rfl) (Ev_bind s2 (Ev.congr (fun k => if_pos rfl) (Ev_bind s3 (Ev.congr (fun k => if_pos rfl) (Ev_bind s4 (Ev.congr (fun k => if_pos rfl) (Ev_bind s5 (Ev.congr (fun k => if_pos rfl) (Ev_bind s6 (Ev.congr (fun k => if_neg (by decide)) sS))))))))))), Ev_bind i1 (Ev.congr (fun k => if_pos rfl) (Ev_bind i2 (Ev.congr (fun k => if_pos rfl) (Ev_bind i3 (Ev.congr (fun k => if_pos rfl) (Ev_bind i4 (Ev.congr (fun k => if_pos rfl) (Ev_bind i5 (Ev.congr (fun k => if_pos rfl) (Ev_bind i6 sI))))))))))⟩
            | true =>
              rw [q6] at s6 i6
              have hB := (okB_iff B).1 q3
              obtain ⟨rb, b1, b2⟩ := bals_s A I B L T d q1 q2 hB (by omega) (by omega)
              obtain ⟨rb', b3, b4⟩ := bals_i A I B L T d hB (by omega) (by omega)
              obtain rfl : rb = rb' := by rw [Bool.eq_iff_iff, b2, b4]
              obtain ⟨rl, l1, l2⟩ := lots_s A I B L T d q1 q2 mA mI mB mL
              obtain ⟨rl', l3, l4⟩ := lots_i A I B L T d hB mA mI mL
              obtain rfl : rl = rl' := by rw [Bool.eq_iff_iff, l2, l4]
              obtain ⟨rt, t1, t2⟩ := trades_s A I B L T d q1 q2 mA mI mT
              obtain ⟨rt', t3, t4⟩ := trades_i A I B L T d mA mI
              obtain rfl : rt = rt' := by rw [Bool.eq_iff_iff, t2, t4]
              have ef : ∀ k, impl_BooksOk.j0 (k + 1) false A I B L T d = (impl_balsRight.f k A I B L T d).bind fun t => (if t = true then ((impl_lotsRight.f k A I B L T d).bind fun u => if u = true then ((impl_tradesRight.f A I B L T d).bind fun v => some v) else some false) else some false) := fun k => by
                simp only [impl_BooksOk.j0]
                rw [if_neg (by decide)]
              cases rb with
              | false => exact ⟨false, Ev_bind s1 (Ev.congr (fun k => if_pos rfl) (Ev_bind s2 (Ev.congr (fun k => if_pos rfl) (Ev_bind s3 (Ev.congr (fun k => if_pos rfl) (Ev_bind s4 (Ev.congr (fun k => if_pos rfl) (Ev_bind s5 (Ev.congr (fun k => if_pos rfl) (Ev_bind s6 (Ev.congr (fun k => if_pos rfl) (Ev_bind b1 (Ev.congr (fun k => if_neg (by decide)) sS))))))))))))), Ev_bind i1 (Ev.congr (fun k => if_pos rfl) (Ev_bind i2 (Ev.congr (fun k => if_pos rfl) (Ev_bind i3 (Ev.congr (fun k => if_pos rfl) (Ev_bind i4 (Ev.congr (fun k => if_pos rfl) (Ev_bind i5 (Ev.congr (fun k => if_pos rfl) (Ev_bind i6 (Ev.step ef (Ev_bind b3 (Ev_all_k fun k => if_neg (by decide))))))))))))))⟩
              | true =>
                cases rl with
                | false => exact ⟨false, Ev_bind s1 (Ev.congr (fun k => if_pos rfl) (Ev_bind s2 (Ev.congr (fun k => if_pos rfl) (Ev_bind s3 (Ev.congr (fun k => if_pos rfl) (Ev_bind s4 (Ev.congr (fun k => if_pos rfl) (Ev_bind s5 (Ev.congr (fun k => if_pos rfl) (Ev_bind s6 (Ev.congr (fun k => if_pos rfl) (Ev_bind b1 (Ev.congr (fun k => if_pos rfl) (Ev_bind l1 sS)))))))))))))), Ev_bind i1 (Ev.congr (fun k => if_pos rfl) (Ev_bind i2 (Ev.congr (fun k => if_pos rfl) (Ev_bind i3 (Ev.congr (fun k => if_pos rfl) (Ev_bind i4 (Ev.congr (fun k => if_pos rfl) (Ev_bind i5 (Ev.congr (fun k => if_pos rfl) (Ev_bind i6 (Ev.step ef (Ev_bind b3 (Ev.congr (fun k => if_pos rfl) (Ev_bind l3 (Ev_all_k fun k => if_neg (by decide))))))))))))))))⟩
                | true => exact ⟨rt, Ev_bind s1 (Ev.congr (fun k => if_pos rfl) (Ev_bind s2 (Ev.congr (fun k => if_pos rfl) (Ev_bind s3 (Ev.congr (fun k => if_pos rfl) (Ev_bind s4 (Ev.congr (fun k => if_pos rfl) (Ev_bind s5 (Ev.congr (fun k => if_pos rfl) (Ev_bind s6 (Ev.congr (fun k => if_pos rfl) (Ev_bind b1 (Ev.congr (fun k => if_pos rfl) (Ev_bind l1 t1)))))))))))))), Ev_bind i1 (Ev.congr (fun k => if_pos rfl) (Ev_bind i2 (Ev.congr (fun k => if_pos rfl) (Ev_bind i3 (Ev.congr (fun k => if_pos rfl) (Ev_bind i4 (Ev.congr (fun k => if_pos rfl) (Ev_bind i5 (Ev.congr (fun k => if_pos rfl) (Ev_bind i6 (Ev.step ef (Ev_bind b3 (Ev.congr (fun k => if_pos rfl) (Ev_bind l3 (Ev.congr (fun k => if_pos rfl) (Ev_all_k fun k => by rw [t3, Option.bind_some]))))))))))))))))⟩
end
end Go.Proofs.Ytmfgajbkcnlkcaa.K1
namespace Go.Proofs.Ytmfgajbkcnlkcaa.Pure
open Go Go.RowKit Go.Proofs.Ytmfgajbkcnlkcaa.P Go.Proofs.YtmfgajbkcnlkcaaW.PrintWords Go.Proofs.YtmfgajbkcnlkcaaW.PrintLast Go.Proofs.Ytmfgajbkcnlkcaa.EV Go.Proofs.Ytmfgajbkcnlkcaa.T1 Go.Proofs.Ytmfgajbkcnlkcaa.T2 Go.Proofs.Ytmfgajbkcnlkcaa.K1
theorem find_s (A : List S88) (I : List S90) (B : List S93) (L : List S96) (T : List S50) (d a : Int) (mT : T.length ≤ 1048576) : Ev (fun k => spec_l7Find.f k A I B L T d a) (X0.idx (fun x : S50 => x.f0 == a) T) := by
  unfold spec_l7Find.f
  have h := Ev_goes (fun k (_ : Unit) i => spec_l7Find.l0 k a i A I B L T d) T.length (fun _ _ => X0.idx (fun x : S50 => x.f0 == a) T) (fun i _ => ∀ j, j < i → (T.getD j z50).f0 ≠ a)
    (fun s hs => Ev_one fun k => by
      simp only [spec_l7Find.l0]
      rw [if_neg (by omega), X0.idx_none (fun x : S50 => x.f0 == a) z50 T (fun j hj => beq_eq_false_iff_ne.2 (hs j hj))])
    (fun i s hi hinv => by
      have e : ∀ k, spec_l7Find.l0 (k + 1) a (i : Int) A I B L T d = if (T.getD i z50).f0 = a then some (i : Int) else spec_l7Find.l0 k a ((i + 1 : Nat) : Int) A I B L T d := by
        intro k
        simp only [spec_l7Find.l0]
        rw [if_pos (by omega), if_pos (by omega), w_succ hi (by omega)]
        simp only [F1.rdT]
      by_cases hq : (T.getD i z50).f0 = a
      · exact .inl (Ev_one fun k => by
          show spec_l7Find.l0 (k + 1) a (i : Int) A I B L T d = _
          rw [e, if_pos hq, X0.idx_found (fun x : S50 => x.f0 == a) z50 T i hi (fun j hj => beq_eq_false_iff_ne.2 (hinv j hj)) (beq_iff_eq.2 hq)])
      · refine .inr ⟨(), ?_, rfl, fun k => ?_⟩
        · intro j hj
          rcases Nat.lt_succ_iff_lt_or_eq.1 hj with h | h
          · exact hinv j h
          · exact h ▸ hq
        · show spec_l7Find.l0 (k + 1) a (i : Int) A I B L T d = _
          rw [e, if_neg hq]) T.length 0 () (by omega) (by omega) (fun j hj => absurd hj (Nat.not_lt_zero j))
  exact h
theorem of_both (A : List S88) (I : List S90) (B : List S93) (L : List S96) (T : List S50) (d a : Int) (mA : A.length ≤ 1048576) (mI : I.length ≤ 1048576) (mB : B.length ≤ 1048576) (mL : L.length ≤ 1048576) (mT : T.length ≤ 1048576) :
    ∃ r, Ev (fun k => spec_TradeOf.f k A I B L T d a) r ∧ Ev (fun k => impl_TradeOf.f k A I B L T d a) r := by
  unfold spec_TradeOf.f impl_TradeOf.f
  have hs := find_s A I B L T d a mT
  have hi : Ev (fun _ => impl_tradeAt.f A I B L T d a) (X0.idx (fun x : S50 => x.f0 == a) T) := Ev_all_k fun _ => rfl
  have hr := X0.idx_range (fun x : S50 => x.f0 == a) T
  generalize X0.idx (fun x : S50 => x.f0 == a) T = n at hs hi hr
  by_cases h0 : n < 0
  · exact ⟨_, Ev_bind hs (Ev_all_k fun k => if_pos h0), Ev_bind hi (Ev_all_k fun k => if_pos h0)⟩
  obtain ⟨r, bS, bI⟩ := books_both A I B L T d mA mI mB mL mT
  cases r with
  | false => exact ⟨_, Ev_bind hs (Ev.congr (fun k => if_neg h0) (Ev_bind bS (Ev_all_k fun k => if_neg (by decide)))), Ev_bind hi (Ev.congr (fun k => if_neg h0) (Ev_bind bI (Ev_all_k fun k => if_neg (by decide))))⟩
  | true => exact ⟨_, Ev_bind hs (Ev.congr (fun k => if_neg h0) (Ev_bind bS (Ev.congr (fun k => if_pos rfl) (Ev.congr (fun k => if_pos (by omega)) (Ev_all_k fun k => if_pos hr.2))))), Ev_bind hi (Ev.congr (fun k => if_neg h0) (Ev_bind bI (Ev.congr (fun k => if_pos rfl) (Ev.congr (fun k => if_pos (by omega)) (Ev_all_k fun k => if_pos hr.2)))))⟩
theorem FnExactTradeOf : ∀ (l0_0 : List (S106)) (l0_1 : List (S108)) (l0_2 : List (S110)) (l0_3 : List (S112)) (l0_4 : List (S64)) (a0_5 : Int) (a1 : Int), l0_0.length ≤ 9223372036854775807 → (∀ x ∈ l0_0, (Lit.int .i64 x.f0).wf = true ∧ (Lit.int .i64 x.f1).wf = true) → l0_1.length ≤ 9223372036854775807 → (∀ x ∈ l0_1, (Lit.int .i64 x.f0).wf = true ∧ (Lit.int .i64 x.f1).wf = true) → l0_2.length ≤ 9223372036854775807 → (∀ x ∈ l0_2, (Lit.int .i64 x.f0).wf = true ∧ (Lit.int .i64 x.f1).wf = true ∧ (Lit.int .i64 x.f2).wf = true) → l0_3.length ≤ 9223372036854775807 → (∀ x ∈ l0_3, (Lit.int .i64 x.f0).wf = true ∧ (Lit.int .i64 x.f1).wf = true ∧ (Lit.int .i64 x.f2).wf = true ∧ (Lit.int .i64 x.f3).wf = true ∧ (Lit.int .i64 x.f4).wf = true) → l0_4.length ≤ 9223372036854775807 → (∀ x ∈ l0_4, (Lit.int .i64 x.f0).wf = true ∧ (Lit.int .i64 x.f1).wf = true ∧ (Lit.int .i64 x.f2).wf = true ∧ (Lit.int .i64 x.f3).wf = true ∧ (Lit.int .i64 x.f4).wf = true ∧ (Lit.int .i64 x.f5).wf = true ∧ (Lit.int .i64 x.f6).wf = true ∧ (Lit.int .i64 x.f7).wf = true) → (Lit.int .i64 a0_5).wf = true → (Lit.int .i64 a1).wf = true → ∃ k, laws_FnExactTradeOf.f k l0_0 l0_1 l0_2 l0_3 l0_4 a0_5 a1 = some true := by
  intro l0 l1 l2 l3 l4 d a m0 _ m1 _ m2 _ m3 _ m4 _ _ _
  refine Ev.rounds ?_
  unfold laws_FnExactTradeOf.f
  rcases sz_Books l0 l1 l2 l3 l4 d m0 m1 m2 m3 m4 with ⟨n, hn, e⟩ | ⟨h0, h1, h2, h3, h4, n, hn, e⟩
  · exact Ev_all_k fun k => by rw [e, Option.bind_some, if_pos hn]
  have tb := to_Books l0 l1 l2 l3 l4 d h0 h1 h2 h3 h4
  have g0 : (l0.map cvAccount).length ≤ 1048576 := by rw [List.length_map]; exact h0
  have g1 : (l1.map cvInstr).length ≤ 1048576 := by rw [List.length_map]; exact h1
  have g2 : (l2.map cvBal).length ≤ 1048576 := by rw [List.length_map]; exact h2
  have g3 : (l3.map cvLot).length ≤ 1048576 := by rw [List.length_map]; exact h3
  have g4 : (l4.map cvTrade).length ≤ 1048576 := by rw [List.length_map]; exact h4
  have eb := eq_Books (l0.map cvAccount) (l1.map cvInstr) (l2.map cvBal) (l3.map cvLot) (l4.map cvTrade) d (by omega) (by omega) (by omega) (by omega) (by omega)
  obtain ⟨r, hS, hI⟩ := of_both (l0.map cvAccount) (l1.map cvInstr) (l2.map cvBal) (l3.map cvLot) (l4.map cvTrade) d a g0 g1 g2 g3 g4
  obtain ⟨r0, r1, r2, r3, r4, r5, r6, r7, r8⟩ := r
  refine Ev.congr (fun k => by rw [e, Option.bind_some, if_neg (by omega)]) ?_
  have ej : ∀ k, laws_FnExactTradeOf.j0 (k + 1) false l0 l1 l2 l3 l4 d (l0.map cvAccount) (l1.map cvInstr) (l2.map cvBal) (l3.map cvLot) (l4.map cvTrade) d = ((laws_toBooks.f k l0 l1 l2 l3 l4 d).bind fun bt => ((laws_eqBooks.f k (l0.map cvAccount) (l1.map cvInstr) (l2.map cvBal) (l3.map cvLot) (l4.map cvTrade) d bt.1 bt.2.1 bt.2.2.1 bt.2.2.2.1 bt.2.2.2.2.1 bt.2.2.2.2.2).bind fun t => (if t = true then (some true) else (none)))) := fun k => by
    simp only [laws_FnExactTradeOf.j0]
    rw [if_neg (by decide)]
  have hq : Ev (fun _ => laws_eqTrade.f r0 r1 r2 r3 r4 r5 r6 r7 r0 r1 r2 r3 r4 r5 r6 r7) true := Ev_all_k fun _ => eq1_Trade ⟨r0, r1, r2, r3, r4, r5, r6, r7⟩
  exact Ev_bind tb (Ev_bind hS (Ev_bind tb (Ev_bind hI (Ev_bind hq (Ev.congr (fun k => if_pos rfl) (Ev.congr (f := fun k => laws_FnExactTradeOf.j0 k false l0 l1 l2 l3 l4 d (l0.map cvAccount) (l1.map cvInstr) (l2.map cvBal) (l3.map cvLot) (l4.map cvTrade) d) (fun k => by rw [bne_self_eq_false]) (Ev.step ej (Ev_bind tb (Ev_bind eb (Ev_all_k fun k => if_pos rfl))))))))))
end Go.Proofs.Ytmfgajbkcnlkcaa.Pure
namespace Go.Proofs.Ytmfgajbkcnlkcaa.RS
open Go Go.ChangeShapes Go.WideShapes Go.Deep Go.RowKit Go.Proofs.YtmfgajbkcnlkcaaW.PrintWords
def allInts (P : Program) (fs : Array Field) : Bool := (List.range fs.size).all fun i => match fs[i]? with
  | some f => (match P.underlying f.type with | some (.int .i64) => true | _ => false)
  | none => false
theorem allInts_of {P : Program} {fs : Array Field} (h : allInts P fs = true) : ∀ (i : Nat) (f : Field), fs[i]? = some f → P.underlying f.type = some (.int .i64) := by
  intro i f hi
  have hlt : i < fs.size := (Array.getElem?_eq_some_iff.1 hi).1
  have z := List.all_eq_true.1 h i (List.mem_range.2 hlt)
  simp only [hi] at z
  split at z
  · assumption
  · cases z
section
variable {H : Type} {enc : TypeId × Value → H} {P : Program} {w : World} {base : Nat} {spare : Nat → Bool} {held : Bool}
theorem open_rows {t e : TypeId} {fs : Array Field} {fuel : Nat} {v : Value} {x : DataW H × List MemPlace} (ht : P.underlying t = some (.slice e)) (he : P.underlying e = some (.struct fs))
    (hone : oneCellFields P fs = true) (hint : allInts P fs = true) (hC : P.cellsOf e = fs.size) (h : DataW.trod enc P w base spare held fuel t [v] = some x) :
    ∃ (A : Option Addr) (len cap : Nat) (X : Nat → Nat → Int), v = .slice A len cap ∧ len ≤ cap ∧ cap ≤ maxLen ∧
      (0 < len → ∃ ad, A = some ad ∧ ∀ i, i < len → ∀ j, j < fs.size → w.cell? (ad.add (i * fs.size + j)) = some (.int .i64 (X i j)) ∧ (Lit.int .i64 (X i j)).wf = true) := by
  rcases open_slice ht h with ⟨hcs, _⟩ | ⟨a, len, cap, m, n, D, Pl, hcs, _, hl, hm, hmm, _, hi⟩
  · simp only [List.cons.injEq, and_true] at hcs
    exact ⟨none, 0, 0, fun _ _ => 0, hcs, Nat.le_refl _, Nat.zero_le _, fun hp => absurd hp (Nat.lt_irrefl 0)⟩
  · simp only [List.cons.injEq, and_true] at hcs
    have hmle : len ≤ m := by rw [hmm]; split <;> omega
    have key : ∀ i, i < len → ∃ f : Nat → Int, ∀ j, j < fs.size → w.cell? (a.add (i * fs.size + j)) = some (.int .i64 (f j)) ∧ (Lit.int .i64 (f j)).wf = true := by
      intro i him
      obtain ⟨cs', hc, ht'⟩ := hi i (by omega)
      rw [hC] at hc
      obtain ⟨ys, n', hn', hy, hlen, hyl, hf⟩ := DataW.trod_struct he ht'
      obtain ⟨_, hcl, hat⟩ := World.cells?_some hc
      refine choose_lt (α := Int) (n := fs.size) (p := fun j q => w.cell? (a.add (i * fs.size + j)) = some (.int .i64 q) ∧ (Lit.int .i64 q).wf = true) fun j hj => ?_
      have hfj : fs[j]? = some fs[j] := Array.getElem?_eq_getElem hj
      obtain ⟨ho, hk⟩ := hone_of hone j _ hfj
      have h1 := hf j _ hfj
      rw [ho, hk, take1_drop cs' j undef (by omega)] at h1
      have hys : ys[j]? = some (ys[j]'(by omega)) := List.getElem?_eq_getElem (by omega)
      rw [hys] at h1
      obtain ⟨q, hq, _, hwf⟩ := DataW.trod_int (allInts_of hint j _ hfj) h1
      simp only [List.cons.injEq, and_true] at hq
      have hcell := hat j (by omega)
      rw [List.getElem?_eq_getElem (by omega)] at hcell
      have hgd : cs'.getD j undef = cs'[j]'(by omega) := by
        rw [List.getD_eq_getElem?_getD, List.getElem?_eq_getElem (by omega), Option.getD_some]
      rw [hgd] at hq
      exact ⟨q, by rw [← Go.Deep.add_add, hcell, hq], hwf⟩
    obtain ⟨X, hX⟩ := choose_lt (α := Nat → Int) (n := len) (p := fun i f => ∀ j, j < fs.size → w.cell? (a.add (i * fs.size + j)) = some (.int .i64 (f j)) ∧ (Lit.int .i64 (f j)).wf = true) key
    exact ⟨some a, len, cap, X, hcs, hl, hm, fun _ => ⟨a, rfl, fun i him => hX i him⟩⟩
theorem open_val {r : Reach} {b0 : Nat} {t : TypeId} {fs : Array Field} {v : Value} {d : DataW H} {p : List MemPlace} (hs : P.underlying t = some (.struct fs)) (hone : oneCellFields P fs = true) (hC : P.cellsOf t = fs.size)
    (hv : Value.okWide P w r b0 t v) (h : DataW.Trod enc P w base spare held t v d p) :
    ∃ (cs : List Value) (n : Nat), v = .agg cs.toArray ∧ cs.length = fs.size ∧ ∀ (j : Nat) (f : Field), fs[j]? = some f → ∃ y, DataW.trod enc P w base spare held n f.type [cs.getD j undef] = some y := by
  obtain ⟨cs, rfl, hsz⟩ := okWide_struct hs hv
  obtain ⟨l⟩ := cs
  obtain ⟨fuel, hf⟩ := h
  obtain ⟨ys, n, _, _, _, hyl, hg⟩ := DataW.trod_struct hs hf
  have hl : l.length = fs.size := by rw [← hC]; exact hsz
  refine ⟨l, n, rfl, hl, fun j f hj => ?_⟩
  have hjl : j < fs.size := (Array.getElem?_eq_some_iff.1 hj).1
  obtain ⟨ho, hk⟩ := hone_of hone j f hj
  have h1 := hg j f hj
  have hcells : (Value.agg ⟨l⟩).cells.toList = l := rfl
  rw [ho, hk] at h1
  first | rw [hcells, take1_drop l j undef (by omega)] at h1 | rw [take1_drop l j undef (by omega)] at h1
  have hys : ys[j]? = some (ys[j]'(by omega)) := List.getElem?_eq_getElem (by omega)
  exact ⟨_, h1.trans hys⟩
theorem int_of {n : Nat} {t : TypeId} {v : Value} {x : DataW H × List MemPlace} (ht : P.underlying t = some (.int .i64)) (h : DataW.trod enc P w base spare held n t [v] = some x) : ∃ q : Int, v = .int .i64 q ∧ (Lit.int .i64 q).wf = true := by
  obtain ⟨q, hq, _, hw⟩ := DataW.trod_int ht h
  simp only [List.cons.injEq, and_true] at hq
  exact ⟨q, hq, hw⟩
end
theorem getD_range {α : Type} (n : Nat) (f : Nat → α) (i : Nat) (p : α) (h : ((List.range n).map f)[i]? = some p) : i < n ∧ p = f i := by
  have hi := (List.getElem?_eq_some_iff.1 h).1
  simp only [List.length_map, List.length_range] at hi
  refine ⟨hi, ?_⟩
  rw [List.getElem?_map, List.getElem?_range hi] at h
  simpa using h.symm
theorem mem_map_range {α : Type} {n : Nat} {f : Nat → α} {x : α} (h : x ∈ (List.range n).map f) : ∃ i, i < n ∧ x = f i := by
  obtain ⟨i, hi, rfl⟩ := List.mem_map.1 h
  exact ⟨i, List.mem_range.1 hi, rfl⟩
theorem len6 : ∀ {cs : List Value}, cs.length = 6 → ∃ x0 x1 x2 x3 x4 x5, cs = [x0, x1, x2, x3, x4, x5]
  | [x0, x1, x2, x3, x4, x5], _ => ⟨x0, x1, x2, x3, x4, x5, rfl⟩
end Go.Proofs.Ytmfgajbkcnlkcaa.RS
namespace Go.Proofs.Ytmfgajbkcnlkcaa.RT
open Go Go.RowKit Go.Proofs.Ytmfgajbkcnlkcaa.P Go.Proofs.YtmfgajbkcnlkcaaW.PrintWords Go.Proofs.YtmfgajbkcnlkcaaW.PrintLast
theorem row64 {W : World} {A : Option Addr} {len : Nat} {X : Nat → Nat → Int} (hm : len ≤ maxLen) (hx : 0 < len → ∃ ad, A = some ad ∧ ∀ i, i < len → ∀ j, j < 8 → W.cell? (ad.add (i * 8 + j)) = some (.int .i64 (X i j)) ∧ (Lit.int .i64 (X i j)).wf = true) :
    ∃ l : List S64, len = l.length ∧ Kd.C k64 W A l.length l ∧ ∀ x ∈ l, (Lit.int .i64 x.f0).wf = true ∧ (Lit.int .i64 x.f1).wf = true ∧ (Lit.int .i64 x.f2).wf = true ∧ (Lit.int .i64 x.f3).wf = true ∧ (Lit.int .i64 x.f4).wf = true ∧ (Lit.int .i64 x.f5).wf = true ∧ (Lit.int .i64 x.f6).wf = true ∧ (Lit.int .i64 x.f7).wf = true := by
  refine ⟨(List.range len).map fun i => (⟨X i 0, X i 1, X i 2, X i 3, X i 4, X i 5, X i 6, X i 7⟩ : S64), by simp, ⟨rfl, by simp only [List.length_map, List.length_range]; exact hm, fun hn => ?_⟩, fun x hxm => ?_⟩
  · obtain ⟨ad, e, hc⟩ := hx (by simpa using hn)
    refine ⟨ad, e, fun j p hj => ⟨_, rfl, k64_mk W p, fun i u hu => ?_⟩⟩
    obtain ⟨hjl, rfl⟩ := RS.getD_range _ _ _ _ hj
    have hi : i < 8 := (List.getElem?_eq_some_iff.1 hu).1
    have hcell := (hc j hjl i hi).1
    match i, hi, hu, hcell with
    | 0, _, hu, hcell => exact hcell.trans hu
    | 1, _, hu, hcell => exact hcell.trans hu
    | 2, _, hu, hcell => exact hcell.trans hu
    | 3, _, hu, hcell => exact hcell.trans hu
    | 4, _, hu, hcell => exact hcell.trans hu
    | 5, _, hu, hcell => exact hcell.trans hu
    | 6, _, hu, hcell => exact hcell.trans hu
    | 7, _, hu, hcell => exact hcell.trans hu
  · obtain ⟨i, hi, rfl⟩ := RS.mem_map_range hxm
    obtain ⟨ad, e, hc⟩ := hx (by omega)
    exact ⟨(hc i hi 0 (by decide)).2, (hc i hi 1 (by decide)).2, (hc i hi 2 (by decide)).2, (hc i hi 3 (by decide)).2, (hc i hi 4 (by decide)).2, (hc i hi 5 (by decide)).2, (hc i hi 6 (by decide)).2, (hc i hi 7 (by decide)).2⟩
theorem row106 {W : World} {A : Option Addr} {len : Nat} {X : Nat → Nat → Int} (hm : len ≤ maxLen) (hx : 0 < len → ∃ ad, A = some ad ∧ ∀ i, i < len → ∀ j, j < 2 → W.cell? (ad.add (i * 2 + j)) = some (.int .i64 (X i j)) ∧ (Lit.int .i64 (X i j)).wf = true) :
    ∃ l : List S106, len = l.length ∧ Kd.C k106 W A l.length l ∧ ∀ x ∈ l, (Lit.int .i64 x.f0).wf = true ∧ (Lit.int .i64 x.f1).wf = true := by
  refine ⟨(List.range len).map fun i => (⟨X i 0, X i 1⟩ : S106), by simp, ⟨rfl, by simp only [List.length_map, List.length_range]; exact hm, fun hn => ?_⟩, fun x hxm => ?_⟩
  · obtain ⟨ad, e, hc⟩ := hx (by simpa using hn)
    refine ⟨ad, e, fun j p hj => ⟨_, rfl, k106_mk W p, fun i u hu => ?_⟩⟩
    obtain ⟨hjl, rfl⟩ := RS.getD_range _ _ _ _ hj
    have hi : i < 2 := (List.getElem?_eq_some_iff.1 hu).1
    have hcell := (hc j hjl i hi).1
    match i, hi, hu, hcell with
    | 0, _, hu, hcell => exact hcell.trans hu
    | 1, _, hu, hcell => exact hcell.trans hu
  · obtain ⟨i, hi, rfl⟩ := RS.mem_map_range hxm
    obtain ⟨ad, e, hc⟩ := hx (by omega)
    exact ⟨(hc i hi 0 (by decide)).2, (hc i hi 1 (by decide)).2⟩
theorem row108 {W : World} {A : Option Addr} {len : Nat} {X : Nat → Nat → Int} (hm : len ≤ maxLen) (hx : 0 < len → ∃ ad, A = some ad ∧ ∀ i, i < len → ∀ j, j < 2 → W.cell? (ad.add (i * 2 + j)) = some (.int .i64 (X i j)) ∧ (Lit.int .i64 (X i j)).wf = true) :
    ∃ l : List S108, len = l.length ∧ Kd.C k108 W A l.length l ∧ ∀ x ∈ l, (Lit.int .i64 x.f0).wf = true ∧ (Lit.int .i64 x.f1).wf = true := by
  refine ⟨(List.range len).map fun i => (⟨X i 0, X i 1⟩ : S108), by simp, ⟨rfl, by simp only [List.length_map, List.length_range]; exact hm, fun hn => ?_⟩, fun x hxm => ?_⟩
  · obtain ⟨ad, e, hc⟩ := hx (by simpa using hn)
    refine ⟨ad, e, fun j p hj => ⟨_, rfl, k108_mk W p, fun i u hu => ?_⟩⟩
    obtain ⟨hjl, rfl⟩ := RS.getD_range _ _ _ _ hj
    have hi : i < 2 := (List.getElem?_eq_some_iff.1 hu).1
    have hcell := (hc j hjl i hi).1
    match i, hi, hu, hcell with
    | 0, _, hu, hcell => exact hcell.trans hu
    | 1, _, hu, hcell => exact hcell.trans hu
  · obtain ⟨i, hi, rfl⟩ := RS.mem_map_range hxm
    obtain ⟨ad, e, hc⟩ := hx (by omega)
    exact ⟨(hc i hi 0 (by decide)).2, (hc i hi 1 (by decide)).2⟩
theorem row110 {W : World} {A : Option Addr} {len : Nat} {X : Nat → Nat → Int} (hm : len ≤ maxLen) (hx : 0 < len → ∃ ad, A = some ad ∧ ∀ i, i < len → ∀ j, j < 3 → W.cell? (ad.add (i * 3 + j)) = some (.int .i64 (X i j)) ∧ (Lit.int .i64 (X i j)).wf = true) :
    ∃ l : List S110, len = l.length ∧ Kd.C k110 W A l.length l ∧ ∀ x ∈ l, (Lit.int .i64 x.f0).wf = true ∧ (Lit.int .i64 x.f1).wf = true ∧ (Lit.int .i64 x.f2).wf = true := by
  refine ⟨(List.range len).map fun i => (⟨X i 0, X i 1, X i 2⟩ : S110), by simp, ⟨rfl, by simp only [List.length_map, List.length_range]; exact hm, fun hn => ?_⟩, fun x hxm => ?_⟩
  · obtain ⟨ad, e, hc⟩ := hx (by simpa using hn)
    refine ⟨ad, e, fun j p hj => ⟨_, rfl, k110_mk W p, fun i u hu => ?_⟩⟩
    obtain ⟨hjl, rfl⟩ := RS.getD_range _ _ _ _ hj
    have hi : i < 3 := (List.getElem?_eq_some_iff.1 hu).1
    have hcell := (hc j hjl i hi).1
    match i, hi, hu, hcell with
    | 0, _, hu, hcell => exact hcell.trans hu
    | 1, _, hu, hcell => exact hcell.trans hu
    | 2, _, hu, hcell => exact hcell.trans hu
  · obtain ⟨i, hi, rfl⟩ := RS.mem_map_range hxm
    obtain ⟨ad, e, hc⟩ := hx (by omega)
    exact ⟨(hc i hi 0 (by decide)).2, (hc i hi 1 (by decide)).2, (hc i hi 2 (by decide)).2⟩
theorem row112 {W : World} {A : Option Addr} {len : Nat} {X : Nat → Nat → Int} (hm : len ≤ maxLen) (hx : 0 < len → ∃ ad, A = some ad ∧ ∀ i, i < len → ∀ j, j < 5 → W.cell? (ad.add (i * 5 + j)) = some (.int .i64 (X i j)) ∧ (Lit.int .i64 (X i j)).wf = true) :
    ∃ l : List S112, len = l.length ∧ Kd.C k112 W A l.length l ∧ ∀ x ∈ l, (Lit.int .i64 x.f0).wf = true ∧ (Lit.int .i64 x.f1).wf = true ∧ (Lit.int .i64 x.f2).wf = true ∧ (Lit.int .i64 x.f3).wf = true ∧ (Lit.int .i64 x.f4).wf = true := by
  refine ⟨(List.range len).map fun i => (⟨X i 0, X i 1, X i 2, X i 3, X i 4⟩ : S112), by simp, ⟨rfl, by simp only [List.length_map, List.length_range]; exact hm, fun hn => ?_⟩, fun x hxm => ?_⟩
  · obtain ⟨ad, e, hc⟩ := hx (by simpa using hn)
    refine ⟨ad, e, fun j p hj => ⟨_, rfl, k112_mk W p, fun i u hu => ?_⟩⟩
    obtain ⟨hjl, rfl⟩ := RS.getD_range _ _ _ _ hj
    have hi : i < 5 := (List.getElem?_eq_some_iff.1 hu).1
    have hcell := (hc j hjl i hi).1
    match i, hi, hu, hcell with
    | 0, _, hu, hcell => exact hcell.trans hu
    | 1, _, hu, hcell => exact hcell.trans hu
    | 2, _, hu, hcell => exact hcell.trans hu
    | 3, _, hu, hcell => exact hcell.trans hu
    | 4, _, hu, hcell => exact hcell.trans hu
  · obtain ⟨i, hi, rfl⟩ := RS.mem_map_range hxm
    obtain ⟨ad, e, hc⟩ := hx (by omega)
    exact ⟨(hc i hi 0 (by decide)).2, (hc i hi 1 (by decide)).2, (hc i hi 2 (by decide)).2, (hc i hi 3 (by decide)).2, (hc i hi 4 (by decide)).2⟩
end Go.Proofs.Ytmfgajbkcnlkcaa.RT
namespace Go.Proofs.Ytmfgajbkcnlkcaa.fnExactTradeOf
open Go.ChangeShapes Go.WideShapes Go.ChangeAt Go.RowKit Go.Proofs.YtmfgajbkcnlkcaaW.PrintWords
open Go.ChangeMaps (open_string shut_string)
set_option linter.unusedVariables false
theorem own : ownKnob Try.prog.godebug = none := by kernel_rfl
theorem laidOut : laidOutB Try.prog = true := by kernel_rfl
set_option maxRecDepth 100000 in
theorem lifted (os : Os) (started : os.Started) (H : Type) (enc : TypeId × Value → H) :
    ReturnsInHanded {} Try.checked os 6 .any (Rows.fnExactTradeOfSpec.pre6 enc Try.prog Try.f6 Rows.fnExactTradeOfRow.domain false) (Rows.fnExactTradeOfSpec.post enc Try.prog Try.f6 false true false false) := by
  refine returnsInHanded_of_change_sized (C := Try.checked) own started (by kernel_rfl) Try.func6
    (ChangeSpec.witness6 (enc := enc) (C := Try.checked) false ⟨#[], #[.agg #[.slice none 0 0, .slice none 0 0, .slice none 0 0, .slice none 0 0, .slice none 0 0, .int .i64 0], .int .i64 0], []⟩ 8 (by kernel_rfl) (by kernel_rfl) (by kernel_rfl) (by kernel_rfl)) ?_
  intro W base args ds gs before hval0 hW hcnd hsz0 _
  have hsz : (DataW.weightsEach Try.prog (Try.f6.params.toList ++ Rows.fnExactTradeOfSpec.plain.varTypes Try.prog) (ds ++ gs)).all (· ≤ reachBytes) = true := hsz0
  have hval : ∀ (j : Nat) t v, Try.f6.params[j]? = some t → args[j]? = some v → Value.okWide Try.prog W .any base t v := hval0
  have hW' := hW
  obtain ⟨p, q, hA0, hV, rfl, hfz, hnd⟩ := hW
  have hA : DataW.TrodAll enc Try.prog W 0 (fun _ => true) true Try.f6.params.toList args.toList ds p := hA0
  rw [Try.params6] at hA hval hsz
  obtain ⟨v0, vs0, d0, ds0, p0, q0, hargs, rfl, rfl, h0, r0⟩ := trodAll_cons hA
  obtain ⟨v1, vs1, d1, ds1, p1, q1, rfl, rfl, rfl, h1, r1⟩ := trodAll_cons r0
  obtain ⟨rfl, rfl, rfl⟩ := trodAll_nil r1
  obtain rfl : args = #[v0, v1] := by cases args; simp_all
  obtain ⟨rfl, rfl⟩ := trodVars_none hV
  have k0 := h0
  have lt0 : ∀ x ∈ p0, x.block < W.heap.size := by obtain ⟨m, hm⟩ := k0; exact DataW.trod_lt m _ _ _ hm
  obtain ⟨cs0, n0, rfl, hcl0, hg0⟩ := RS.open_val Try.underlying44 (by kernel_rfl) (by kernel_rfl) (hval 0 44 v0 rfl rfl) h0
  have hcn0 : cs0.length = 6 := hcl0.trans (by kernel_rfl)
  clear hcl0
  obtain ⟨b0_0, b0_1, b0_2, b0_3, b0_4, b0_5, rfl⟩ := RS.len6 hcn0
  obtain ⟨y0_0, hy0_0⟩ := hg0 0 _ rfl
  obtain ⟨A0_0, n0_0, c0_0, X0_0, hv0_0, hl0_0, hm0_0, hx0_0⟩ := RS.open_rows Try.underlying39 Try.underlying106 (by kernel_rfl) (by kernel_rfl) (by kernel_rfl) (v := b0_0) hy0_0
  subst hv0_0
  obtain ⟨l0_0, e0_0, hr0_0, hw0_0⟩ := RT.row106 (Nat.le_trans hl0_0 hm0_0) hx0_0
  subst e0_0
  obtain ⟨y0_1, hy0_1⟩ := hg0 1 _ rfl
  obtain ⟨A0_1, n0_1, c0_1, X0_1, hv0_1, hl0_1, hm0_1, hx0_1⟩ := RS.open_rows Try.underlying40 Try.underlying108 (by kernel_rfl) (by kernel_rfl) (by kernel_rfl) (v := b0_1) hy0_1
  subst hv0_1
  obtain ⟨l0_1, e0_1, hr0_1, hw0_1⟩ := RT.row108 (Nat.le_trans hl0_1 hm0_1) hx0_1
  subst e0_1
  obtain ⟨y0_2, hy0_2⟩ := hg0 2 _ rfl
  obtain ⟨A0_2, n0_2, c0_2, X0_2, hv0_2, hl0_2, hm0_2, hx0_2⟩ := RS.open_rows Try.underlying41 Try.underlying110 (by kernel_rfl) (by kernel_rfl) (by kernel_rfl) (v := b0_2) hy0_2
  subst hv0_2
  obtain ⟨l0_2, e0_2, hr0_2, hw0_2⟩ := RT.row110 (Nat.le_trans hl0_2 hm0_2) hx0_2
  subst e0_2
  obtain ⟨y0_3, hy0_3⟩ := hg0 3 _ rfl
  obtain ⟨A0_3, n0_3, c0_3, X0_3, hv0_3, hl0_3, hm0_3, hx0_3⟩ := RS.open_rows Try.underlying42 Try.underlying112 (by kernel_rfl) (by kernel_rfl) (by kernel_rfl) (v := b0_3) hy0_3
  subst hv0_3
  obtain ⟨l0_3, e0_3, hr0_3, hw0_3⟩ := RT.row112 (Nat.le_trans hl0_3 hm0_3) hx0_3
  subst e0_3
  obtain ⟨y0_4, hy0_4⟩ := hg0 4 _ rfl
  obtain ⟨A0_4, n0_4, c0_4, X0_4, hv0_4, hl0_4, hm0_4, hx0_4⟩ := RS.open_rows Try.underlying22 Try.underlying64 (by kernel_rfl) (by kernel_rfl) (by kernel_rfl) (v := b0_4) hy0_4
  subst hv0_4
  obtain ⟨l0_4, e0_4, hr0_4, hw0_4⟩ := RT.row64 (Nat.le_trans hl0_4 hm0_4) hx0_4
  subst e0_4
  obtain ⟨y0_5, hy0_5⟩ := hg0 5 _ rfl
  obtain ⟨a0_5, hq0_5, hw0_5⟩ := RS.int_of (v := b0_5) Try.underlying3 hy0_5
  subst hq0_5
  obtain ⟨a1, rfl, rfl, rfl, w1⟩ := open_int Try.underlying3 (hval 1 3 v1 rfl rfl) h1
  clear hA0 hval0 hsz0 hsz
  obtain ⟨k, hpure⟩ := Pure.FnExactTradeOf l0_0 l0_1 l0_2 l0_3 l0_4 a0_5 a1 (Kd.C_max hr0_0) hw0_0 (Kd.C_max hr0_1) hw0_1 (Kd.C_max hr0_2) hw0_2 (Kd.C_max hr0_3) hw0_3 (Kd.C_max hr0_4) hw0_4 hw0_5 w1
  refine (AI.root6_ok k _ _ l0_0 _ _ l0_1 _ _ l0_2 _ _ l0_3 _ _ l0_4 a0_5 a1 true W hr0_0 hl0_0 hr0_1 hl0_1 hr0_2 hl0_2 hr0_3 hl0_3 hr0_4 hl0_4 hpure).mono fun e W' hpost => ?_
  obtain ⟨he, hd⟩ := hpost
  have bel : Below W.heap.size W W' := hd
  subst he
  exact ⟨_, rfl, _, _, _, [], _, [], hW', trodAll_mk1 (shut_bool Try.underlying4 _), (trodAll_cons_mk (Below.trod laidOut (by kernel_rfl) (of_decide_eq_true (by kernel_rfl)) k0 bel lt0) (trodAll_cons_mk (shut_int Try.underlying3 w1) trodAll_mk0)), rfl, bel.frame _, fun h => by cases h⟩
theorem over : Rows.fnExactTradeOfRow.holds Try.pinned (OpenSpec.ofChange Rows.fnExactTradeOfSpec) :=
  OpenClaim.holds_of_wide 6 Try.f6 rfl rfl rfl rfl rfl rfl rfl ⟨rfl, rfl, rfl, rfl, rfl⟩ rfl rfl rfl rfl rfl (by kernel_rfl) Try.func6 (by kernel_rfl)
    (of_decide_eq_true (by kernel_rfl)) (by unfold Func.isWrapper; first | (rw [if_pos (by decide +kernel)]; kernel_rfl) | (rw [if_neg (by decide +kernel)]; exact ⟨rfl, rfl⟩))
    (fun os started H enc _ => lifted os started H enc)
theorem proved : Rows.FnExactTradeOfSaid := over
#print axioms proved
end Go.Proofs.Ytmfgajbkcnlkcaa.fnExactTradeOf
namespace Go.Proofs.Ytmfgajbkcnlkcaa
theorem fnExactTradeOf_holds : Rows.FnExactTradeOfSaid := fnExactTradeOf.proved
end Go.Proofs.Ytmfgajbkcnlkcaa
