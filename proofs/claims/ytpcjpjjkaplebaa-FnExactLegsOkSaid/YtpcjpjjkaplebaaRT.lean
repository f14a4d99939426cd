/- A text written by a program of this repo over the seat's translation: plain functions and the walks that tie the Go calls to them. -/
import Derived.Test.YtpcjpjjkaplebaaPx0
import Derived.Test.YtpcjpjjkaplebaaRS
namespace Go.Proofs.Ytpcjpjjkaplebaa.RT
open Go Go.RowKit Go.Proofs.Ytpcjpjjkaplebaa.P Go.Proofs.YtpcjpjjkaplebaaW.PrintWords Go.Proofs.YtpcjpjjkaplebaaW.PrintLast
theorem row58 {W : World} {A : Option Addr} {len : Nat} {X : Nat → Nat → Int} (hm : len ≤ maxLen) (hx : 0 < len → ∃ ad, A = some ad ∧ ∀ i, i < len → ∀ j, j < 3 → W.cell? (ad.add (i * 3 + j)) = some (.int .i64 (X i j)) ∧ (Lit.int .i64 (X i j)).wf = true) :
    ∃ l : List S58, len = l.length ∧ Kd.C k58 W A l.length l ∧ ∀ x ∈ l, (Lit.int .i64 x.f0).wf = true ∧ (Lit.int .i64 x.f1).wf = true ∧ (Lit.int .i64 x.f2).wf = true := by
  refine ⟨(List.range len).map fun i => (⟨X i 0, X i 1, X i 2⟩ : S58), by simp, ⟨rfl, by simp only [List.length_map, List.length_range]; exact hm, fun hn => ?_⟩, fun x hxm => ?_⟩
  · obtain ⟨ad, e, hc⟩ := hx (by simpa using hn)
    refine ⟨ad, e, fun j p hj => ⟨_, rfl, k58_mk W p, fun i u hu => ?_⟩⟩
    obtain ⟨hjl, rfl⟩ := RS.getD_range _ _ _ _ hj
    have hi : i < 3 := (List.getElem?_eq_some_iff.1 hu).1
    have hcell := (hc j hjl i hi).1
    match i, hi, hu, hcell with
    | 0, _, hu, hcell => exact hcell.trans hu
    | 1, _, hu, hcell => exact hcell.trans hu
    | 2, _, hu, hcell => exact hcell.trans hu
  · obtain ⟨i, hi, rfl⟩ := RS.mem_map_range hxm
    obtain ⟨ad, e, hc⟩ := hx (by omega)
    exact ⟨(hc i hi 0 (by decide)).2, (hc i hi 1 (by decide)).2, (hc i hi 2 (by decide)).2⟩
theorem row61 {W : World} {A : Option Addr} {len : Nat} {X : Nat → Nat → Int} (hm : len ≤ maxLen) (hx : 0 < len → ∃ ad, A = some ad ∧ ∀ i, i < len → ∀ j, j < 3 → W.cell? (ad.add (i * 3 + j)) = some (.int .i64 (X i j)) ∧ (Lit.int .i64 (X i j)).wf = true) :
    ∃ l : List S61, len = l.length ∧ Kd.C k61 W A l.length l ∧ ∀ x ∈ l, (Lit.int .i64 x.f0).wf = true ∧ (Lit.int .i64 x.f1).wf = true ∧ (Lit.int .i64 x.f2).wf = true := by
  refine ⟨(List.range len).map fun i => (⟨X i 0, X i 1, X i 2⟩ : S61), by simp, ⟨rfl, by simp only [List.length_map, List.length_range]; exact hm, fun hn => ?_⟩, fun x hxm => ?_⟩
  · obtain ⟨ad, e, hc⟩ := hx (by simpa using hn)
    refine ⟨ad, e, fun j p hj => ⟨_, rfl, k61_mk W p, fun i u hu => ?_⟩⟩
    obtain ⟨hjl, rfl⟩ := RS.getD_range _ _ _ _ hj
    have hi : i < 3 := (List.getElem?_eq_some_iff.1 hu).1
    have hcell := (hc j hjl i hi).1
    match i, hi, hu, hcell with
    | 0, _, hu, hcell => exact hcell.trans hu
    | 1, _, hu, hcell => exact hcell.trans hu
    | 2, _, hu, hcell => exact hcell.trans hu
  · obtain ⟨i, hi, rfl⟩ := RS.mem_map_range hxm
    obtain ⟨ad, e, hc⟩ := hx (by omega)
    exact ⟨(hc i hi 0 (by decide)).2, (hc i hi 1 (by decide)).2, (hc i hi 2 (by decide)).2⟩
theorem row66 {W : World} {A : Option Addr} {len : Nat} {X : Nat → Nat → Int} (hm : len ≤ maxLen) (hx : 0 < len → ∃ ad, A = some ad ∧ ∀ i, i < len → ∀ j, j < 3 → W.cell? (ad.add (i * 3 + j)) = some (.int .i64 (X i j)) ∧ (Lit.int .i64 (X i j)).wf = true) :
    ∃ l : List S66, len = l.length ∧ Kd.C k66 W A l.length l ∧ ∀ x ∈ l, (Lit.int .i64 x.f0).wf = true ∧ (Lit.int .i64 x.f1).wf = true ∧ (Lit.int .i64 x.f2).wf = true := by
  refine ⟨(List.range len).map fun i => (⟨X i 0, X i 1, X i 2⟩ : S66), by simp, ⟨rfl, by simp only [List.length_map, List.length_range]; exact hm, fun hn => ?_⟩, fun x hxm => ?_⟩
  · obtain ⟨ad, e, hc⟩ := hx (by simpa using hn)
    refine ⟨ad, e, fun j p hj => ⟨_, rfl, k66_mk W p, fun i u hu => ?_⟩⟩
    obtain ⟨hjl, rfl⟩ := RS.getD_range _ _ _ _ hj
    have hi : i < 3 := (List.getElem?_eq_some_iff.1 hu).1
    have hcell := (hc j hjl i hi).1
    match i, hi, hu, hcell with
    | 0, _, hu, hcell => exact hcell.trans hu
    | 1, _, hu, hcell => exact hcell.trans hu
    | 2, _, hu, hcell => exact hcell.trans hu
  · obtain ⟨i, hi, rfl⟩ := RS.mem_map_range hxm
    obtain ⟨ad, e, hc⟩ := hx (by omega)
    exact ⟨(hc i hi 0 (by decide)).2, (hc i hi 1 (by decide)).2, (hc i hi 2 (by decide)).2⟩
theorem row70 {W : World} {A : Option Addr} {len : Nat} {X : Nat → Nat → Int} (hm : len ≤ maxLen) (hx : 0 < len → ∃ ad, A = some ad ∧ ∀ i, i < len → ∀ j, j < 3 → W.cell? (ad.add (i * 3 + j)) = some (.int .i64 (X i j)) ∧ (Lit.int .i64 (X i j)).wf = true) :
    ∃ l : List S70, len = l.length ∧ Kd.C k70 W A l.length l ∧ ∀ x ∈ l, (Lit.int .i64 x.f0).wf = true ∧ (Lit.int .i64 x.f1).wf = true ∧ (Lit.int .i64 x.f2).wf = true := by
  refine ⟨(List.range len).map fun i => (⟨X i 0, X i 1, X i 2⟩ : S70), by simp, ⟨rfl, by simp only [List.length_map, List.length_range]; exact hm, fun hn => ?_⟩, fun x hxm => ?_⟩
  · obtain ⟨ad, e, hc⟩ := hx (by simpa using hn)
    refine ⟨ad, e, fun j p hj => ⟨_, rfl, k70_mk W p, fun i u hu => ?_⟩⟩
    obtain ⟨hjl, rfl⟩ := RS.getD_range _ _ _ _ hj
    have hi : i < 3 := (List.getElem?_eq_some_iff.1 hu).1
    have hcell := (hc j hjl i hi).1
    match i, hi, hu, hcell with
    | 0, _, hu, hcell => exact hcell.trans hu
    | 1, _, hu, hcell => exact hcell.trans hu
    | 2, _, hu, hcell => exact hcell.trans hu
  · obtain ⟨i, hi, rfl⟩ := RS.mem_map_range hxm
    obtain ⟨ad, e, hc⟩ := hx (by omega)
    exact ⟨(hc i hi 0 (by decide)).2, (hc i hi 1 (by decide)).2, (hc i hi 2 (by decide)).2⟩
end Go.Proofs.Ytpcjpjjkaplebaa.RT
