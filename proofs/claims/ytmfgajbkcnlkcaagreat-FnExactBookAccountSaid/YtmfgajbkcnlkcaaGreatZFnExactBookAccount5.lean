/- BookAccount of the program and of the reference agree at all books, numbers and kinds; no condition but that they are ints. -/
import Derived.Test.YtmfgajbkcnlkcaaGreatZFnExactBookAccount4
import Derived.Deep.Slices
import Derived.Deep.Fields
import Derived.ChangeSame
import Derived.ChangeShapes
import Derived.WideShapes
import Derived.SizedLaws
import Derived.Test.YtmfgajbkcnlkcaaGreatRows
import Derived.WalkKit
import Derived.ProofKit
import Derived.OpenShut
import Derived.ShutString
import Derived.ChangeOld
import Derived.Below
import Derived.Carry
namespace Go.Proofs.YtmfgajbkcnlkcaaGreat.P
end Go.Proofs.YtmfgajbkcnlkcaaGreat.P
namespace Go.Proofs.YtmfgajbkcnlkcaaGreat.RS
open Go Go.ChangeShapes Go.WideShapes Go.Deep Go.RowKit Go.Proofs.YtmfgajbkcnlkcaaGreatW.PrintWords
def allInts (P : Program) (fs : Array Field) : Bool := (List.range fs.size).all fun i => match fs[i]? with
  | some f => (match P.underlying f.type with | some (.int .i64) => true | _ => false)
  | none => false
theorem allInts_of {P : Program} {fs : Array Field} (h : allInts P fs = true) : ∀ (i : Nat) (f : Field), fs[i]? = some f → P.underlying f.type = some (.int .i64) := by
  intro i f hi
  have hlt : i < fs.size := (Array.getElem?_eq_some_iff.1 hi).1
  have z := List.all_eq_true.1 h i (List.mem_range.2 hlt)
  simp only [hi] at z
  split at z
  · assumption
  · cases z
section
variable {H : Type} {enc : TypeId × Value → H} {P : Program} {w : World} {base : Nat} {spare : Nat → Bool} {held : Bool}
theorem open_rows {t e : TypeId} {fs : Array Field} {fuel : Nat} {v : Value} {x : DataW H × List MemPlace} (ht : P.underlying t = some (.slice e)) (he : P.underlying e = some (.struct fs))
    (hone : oneCellFields P fs = true) (hint : allInts P fs = true) (hC : P.cellsOf e = fs.size) (h : DataW.trod enc P w base spare held fuel t [v] = some x) :
    ∃ (A : Option Addr) (len cap : Nat) (X : Nat → Nat → Int), v = .slice A len cap ∧ len ≤ cap ∧ cap ≤ maxLen ∧
      (0 < len → ∃ ad, A = some ad ∧ ∀ i, i < len → ∀ j, j < fs.size → w.cell? (ad.add (i * fs.size + j)) = some (.int .i64 (X i j)) ∧ (Lit.int .i64 (X i j)).wf = true) := by
  rcases open_slice ht h with ⟨hcs, _⟩ | ⟨a, len, cap, m, n, D, Pl, hcs, _, hl, hm, hmm, _, hi⟩
  · simp only [List.cons.injEq, and_true] at hcs
    exact ⟨none, 0, 0, fun _ _ => 0, hcs, Nat.le_refl _, Nat.zero_le _, fun hp => absurd hp (Nat.lt_irrefl 0)⟩
  · simp only [List.cons.injEq, and_true] at hcs
    have hmle : len ≤ m := by rw [hmm]; split <;> omega
    have key : ∀ i, i < len → ∃ f : Nat → Int, ∀ j, j < fs.size → w.cell? (a.add (i * fs.size + j)) = some (.int .i64 (f j)) ∧ (Lit.int .i64 (f j)).wf = true := by
      intro i him
      obtain ⟨cs', hc, ht'⟩ := hi i (by omega)
      rw [hC] at hc
      obtain ⟨ys, n', hn', hy, hlen, hyl, hf⟩ := DataW.trod_struct he ht'
      obtain ⟨_, hcl, hat⟩ := World.cells?_some hc
      refine choose_lt (α := Int) (n := fs.size) (p := fun j q => w.cell? (a.add (i * fs.size + j)) = some (.int .i64 q) ∧ (Lit.int .i64 q).wf = true) fun j hj => ?_
      have hfj : fs[j]? = some fs[j] := Array.getElem?_eq_getElem hj
      obtain ⟨ho, hk⟩ := hone_of hone j _ hfj
      have h1 := hf j _ hfj
      rw [ho, hk, take1_drop cs' j undef (by omega)] at h1
      have hys : ys[j]? = some (ys[j]'(by omega)) := List.getElem?_eq_getElem (by omega)
      rw [hys] at h1
      obtain ⟨q, hq, _, hwf⟩ := DataW.trod_int (allInts_of hint j _ hfj) h1
      simp only [List.cons.injEq, and_true] at hq
      have hcell := hat j (by omega)
      rw [List.getElem?_eq_getElem (by omega)] at hcell
      have hgd : cs'.getD j undef = cs'[j]'(by omega) := by
        rw [List.getD_eq_getElem?_getD, List.getElem?_eq_getElem (by omega), Option.getD_some]
      rw [hgd] at hq
      exact ⟨q, by rw [← Go.Deep.add_add, hcell, hq], hwf⟩
    obtain ⟨X, hX⟩ := choose_lt (α := Nat → Int) (n := len) (p := fun i f => ∀ j, j < fs.size → w.cell? (a.add (i * fs.size + j)) = some (.int .i64 (f j)) ∧ (Lit.int .i64 (f j)).wf = true) key
    exact ⟨some a, len, cap, X, hcs, hl, hm, fun _ => ⟨a, rfl, fun i him => hX i him⟩⟩
theorem open_val {r : Reach} {b0 : Nat} {t : TypeId} {fs : Array Field} {v : Value} {d : DataW H} {p : List MemPlace} (hs : P.underlying t = some (.struct fs)) (hone : oneCellFields P fs = true) (hC : P.cellsOf t = fs.size)
    (hv : Value.okWide P w r b0 t v) (h : DataW.Trod enc P w base spare held t v d p) :
    ∃ (cs : List Value) (n : Nat), v = .agg cs.toArray ∧ cs.length = fs.size ∧ ∀ (j : Nat) (f : Field), fs[j]? = some f → ∃ y, DataW.trod enc P w base spare held n f.type [cs.getD j undef] = some y := by
  obtain ⟨cs, rfl, hsz⟩ := okWide_struct hs hv
  obtain ⟨l⟩ := cs
  obtain ⟨fuel, hf⟩ := h
  obtain ⟨ys, n, _, _, _, hyl, hg⟩ := DataW.trod_struct hs hf
  have hl : l.length = fs.size := by rw [← hC]; exact hsz
  refine ⟨l, n, rfl, hl, fun j f hj => ?_⟩
  have hjl : j < fs.size := (Array.getElem?_eq_some_iff.1 hj).1
  obtain ⟨ho, hk⟩ := hone_of hone j f hj
  have h1 := hg j f hj
  have hcells : (Value.agg ⟨l⟩).cells.toList = l := rfl
  rw [ho, hk] at h1
  first | rw [hcells, take1_drop l j undef (by omega)] at h1 | rw [take1_drop l j undef (by omega)] at h1
  have hys : ys[j]? = some (ys[j]'(by omega)) := List.getElem?_eq_getElem (by omega)
  exact ⟨_, h1.trans hys⟩
theorem int_of {n : Nat} {t : TypeId} {v : Value} {x : DataW H × List MemPlace} (ht : P.underlying t = some (.int .i64)) (h : DataW.trod enc P w base spare held n t [v] = some x) : ∃ q : Int, v = .int .i64 q ∧ (Lit.int .i64 q).wf = true := by
  obtain ⟨q, hq, _, hw⟩ := DataW.trod_int ht h
  simp only [List.cons.injEq, and_true] at hq
  exact ⟨q, hq, hw⟩
end
theorem getD_range {α : Type} (n : Nat) (f : Nat → α) (i : Nat) (p : α) (h : ((List.range n).map f)[i]? = some p) : i < n ∧ p = f i := by
  have hi := (List.getElem?_eq_some_iff.1 h).1
  simp only [List.length_map, List.length_range] at hi
  refine ⟨hi, ?_⟩
  rw [List.getElem?_map, List.getElem?_range hi] at h
  simpa using h.symm
theorem mem_map_range {α : Type} {n : Nat} {f : Nat → α} {x : α} (h : x ∈ (List.range n).map f) : ∃ i, i < n ∧ x = f i := by
  obtain ⟨i, hi, rfl⟩ := List.mem_map.1 h
  exact ⟨i, List.mem_range.1 hi, rfl⟩
theorem len6 : ∀ {cs : List Value}, cs.length = 6 → ∃ x0 x1 x2 x3 x4 x5, cs = [x0, x1, x2, x3, x4, x5]
  | [x0, x1, x2, x3, x4, x5], _ => ⟨x0, x1, x2, x3, x4, x5, rfl⟩
end Go.Proofs.YtmfgajbkcnlkcaaGreat.RS
namespace Go.Proofs.YtmfgajbkcnlkcaaGreat.RT
open Go Go.RowKit Go.Proofs.YtmfgajbkcnlkcaaGreat.P Go.Proofs.YtmfgajbkcnlkcaaGreatW.PrintWords Go.Proofs.YtmfgajbkcnlkcaaGreatW.PrintLast
theorem row103 {W : World} {A : Option Addr} {len : Nat} {X : Nat → Nat → Int} (hm : len ≤ maxLen) (hx : 0 < len → ∃ ad, A = some ad ∧ ∀ i, i < len → ∀ j, j < 2 → W.cell? (ad.add (i * 2 + j)) = some (.int .i64 (X i j)) ∧ (Lit.int .i64 (X i j)).wf = true) :
    ∃ l : List S103, len = l.length ∧ Kd.C k103 W A l.length l ∧ ∀ x ∈ l, (Lit.int .i64 x.f0).wf = true ∧ (Lit.int .i64 x.f1).wf = true := by
  refine ⟨(List.range len).map fun i => (⟨X i 0, X i 1⟩ : S103), by simp, ⟨rfl, by simp only [List.length_map, List.length_range]; exact hm, fun hn => ?_⟩, fun x hxm => ?_⟩
  · obtain ⟨ad, e, hc⟩ := hx (by simpa using hn)
    refine ⟨ad, e, fun j p hj => ⟨_, rfl, k103_mk W p, fun i u hu => ?_⟩⟩
    obtain ⟨hjl, rfl⟩ := RS.getD_range _ _ _ _ hj
    have hi : i < 2 := (List.getElem?_eq_some_iff.1 hu).1
    have hcell := (hc j hjl i hi).1
    match i, hi, hu, hcell with
    | 0, _, hu, hcell => exact hcell.trans hu
    | 1, _, hu, hcell => exact hcell.trans hu
  · obtain ⟨i, hi, rfl⟩ := RS.mem_map_range hxm
    obtain ⟨ad, e, hc⟩ := hx (by omega)
    exact ⟨(hc i hi 0 (by decide)).2, (hc i hi 1 (by decide)).2⟩
theorem row105 {W : World} {A : Option Addr} {len : Nat} {X : Nat → Nat → Int} (hm : len ≤ maxLen) (hx : 0 < len → ∃ ad, A = some ad ∧ ∀ i, i < len → ∀ j, j < 2 → W.cell? (ad.add (i * 2 + j)) = some (.int .i64 (X i j)) ∧ (Lit.int .i64 (X i j)).wf = true) :
    ∃ l : List S105, len = l.length ∧ Kd.C k105 W A l.length l ∧ ∀ x ∈ l, (Lit.int .i64 x.f0).wf = true ∧ (Lit.int .i64 x.f1).wf = true := by
  refine ⟨(List.range len).map fun i => (⟨X i 0, X i 1⟩ : S105), by simp, ⟨rfl, by simp only [List.length_map, List.length_range]; exact hm, fun hn => ?_⟩, fun x hxm => ?_⟩
  · obtain ⟨ad, e, hc⟩ := hx (by simpa using hn)
    refine ⟨ad, e, fun j p hj => ⟨_, rfl, k105_mk W p, fun i u hu => ?_⟩⟩
    obtain ⟨hjl, rfl⟩ := RS.getD_range _ _ _ _ hj
    have hi : i < 2 := (List.getElem?_eq_some_iff.1 hu).1
    have hcell := (hc j hjl i hi).1
    match i, hi, hu, hcell with
    | 0, _, hu, hcell => exact hcell.trans hu
    | 1, _, hu, hcell => exact hcell.trans hu
  · obtain ⟨i, hi, rfl⟩ := RS.mem_map_range hxm
    obtain ⟨ad, e, hc⟩ := hx (by omega)
    exact ⟨(hc i hi 0 (by decide)).2, (hc i hi 1 (by decide)).2⟩
theorem row108 {W : World} {A : Option Addr} {len : Nat} {X : Nat → Nat → Int} (hm : len ≤ maxLen) (hx : 0 < len → ∃ ad, A = some ad ∧ ∀ i, i < len → ∀ j, j < 3 → W.cell? (ad.add (i * 3 + j)) = some (.int .i64 (X i j)) ∧ (Lit.int .i64 (X i j)).wf = true) :
    ∃ l : List S108, len = l.length ∧ Kd.C k108 W A l.length l ∧ ∀ x ∈ l, (Lit.int .i64 x.f0).wf = true ∧ (Lit.int .i64 x.f1).wf = true ∧ (Lit.int .i64 x.f2).wf = true := by
  refine ⟨(List.range len).map fun i => (⟨X i 0, X i 1, X i 2⟩ : S108), by simp, ⟨rfl, by simp only [List.length_map, List.length_range]; exact hm, fun hn => ?_⟩, fun x hxm => ?_⟩
  · obtain ⟨ad, e, hc⟩ := hx (by simpa using hn)
    refine ⟨ad, e, fun j p hj => ⟨_, rfl, k108_mk W p, fun i u hu => ?_⟩⟩
    obtain ⟨hjl, rfl⟩ := RS.getD_range _ _ _ _ hj
    have hi : i < 3 := (List.getElem?_eq_some_iff.1 hu).1
    have hcell := (hc j hjl i hi).1
    match i, hi, hu, hcell with
    | 0, _, hu, hcell => exact hcell.trans hu
    | 1, _, hu, hcell => exact hcell.trans hu
    | 2, _, hu, hcell => exact hcell.trans hu
  · obtain ⟨i, hi, rfl⟩ := RS.mem_map_range hxm
    obtain ⟨ad, e, hc⟩ := hx (by omega)
    exact ⟨(hc i hi 0 (by decide)).2, (hc i hi 1 (by decide)).2, (hc i hi 2 (by decide)).2⟩
theorem row112 {W : World} {A : Option Addr} {len : Nat} {X : Nat → Nat → Int} (hm : len ≤ maxLen) (hx : 0 < len → ∃ ad, A = some ad ∧ ∀ i, i < len → ∀ j, j < 5 → W.cell? (ad.add (i * 5 + j)) = some (.int .i64 (X i j)) ∧ (Lit.int .i64 (X i j)).wf = true) :
    ∃ l : List S112, len = l.length ∧ Kd.C k112 W A l.length l ∧ ∀ x ∈ l, (Lit.int .i64 x.f0).wf = true ∧ (Lit.int .i64 x.f1).wf = true ∧ (Lit.int .i64 x.f2).wf = true ∧ (Lit.int .i64 x.f3).wf = true ∧ (Lit.int .i64 x.f4).wf = true := by
  refine ⟨(List.range len).map fun i => (⟨X i 0, X i 1, X i 2, X i 3, X i 4⟩ : S112), by simp, ⟨rfl, by simp only [List.length_map, List.length_range]; exact hm, fun hn => ?_⟩, fun x hxm => ?_⟩
  · obtain ⟨ad, e, hc⟩ := hx (by simpa using hn)
    refine ⟨ad, e, fun j p hj => ⟨_, rfl, k112_mk W p, fun i u hu => ?_⟩⟩
    obtain ⟨hjl, rfl⟩ := RS.getD_range _ _ _ _ hj
    have hi : i < 5 := (List.getElem?_eq_some_iff.1 hu).1
    have hcell := (hc j hjl i hi).1
    match i, hi, hu, hcell with
    | 0, _, hu, hcell => exact hcell.trans hu
    | 1, _, hu, hcell => exact hcell.trans hu
    | 2, _, hu, hcell => exact hcell.trans hu
    | 3, _, hu, hcell => exact hcell.trans hu
    | 4, _, hu, hcell => exact hcell.trans hu
  · obtain ⟨i, hi, rfl⟩ := RS.mem_map_range hxm
    obtain ⟨ad, e, hc⟩ := hx (by omega)
    exact ⟨(hc i hi 0 (by decide)).2, (hc i hi 1 (by decide)).2, (hc i hi 2 (by decide)).2, (hc i hi 3 (by decide)).2, (hc i hi 4 (by decide)).2⟩
theorem row114 {W : World} {A : Option Addr} {len : Nat} {X : Nat → Nat → Int} (hm : len ≤ maxLen) (hx : 0 < len → ∃ ad, A = some ad ∧ ∀ i, i < len → ∀ j, j < 8 → W.cell? (ad.add (i * 8 + j)) = some (.int .i64 (X i j)) ∧ (Lit.int .i64 (X i j)).wf = true) :
    ∃ l : List S114, len = l.length ∧ Kd.C k114 W A l.length l ∧ ∀ x ∈ l, (Lit.int .i64 x.f0).wf = true ∧ (Lit.int .i64 x.f1).wf = true ∧ (Lit.int .i64 x.f2).wf = true ∧ (Lit.int .i64 x.f3).wf = true ∧ (Lit.int .i64 x.f4).wf = true ∧ (Lit.int .i64 x.f5).wf = true ∧ (Lit.int .i64 x.f6).wf = true ∧ (Lit.int .i64 x.f7).wf = true := by
  refine ⟨(List.range len).map fun i => (⟨X i 0, X i 1, X i 2, X i 3, X i 4, X i 5, X i 6, X i 7⟩ : S114), by simp, ⟨rfl, by simp only [List.length_map, List.length_range]; exact hm, fun hn => ?_⟩, fun x hxm => ?_⟩
  · obtain ⟨ad, e, hc⟩ := hx (by simpa using hn)
    refine ⟨ad, e, fun j p hj => ⟨_, rfl, k114_mk W p, fun i u hu => ?_⟩⟩
    obtain ⟨hjl, rfl⟩ := RS.getD_range _ _ _ _ hj
    have hi : i < 8 := (List.getElem?_eq_some_iff.1 hu).1
    have hcell := (hc j hjl i hi).1
    match i, hi, hu, hcell with
    | 0, _, hu, hcell => exact hcell.trans hu
    | 1, _, hu, hcell => exact hcell.trans hu
    | 2, _, hu, hcell => exact hcell.trans hu
    | 3, _, hu, hcell => exact hcell.trans hu
    | 4, _, hu, hcell => exact hcell.trans hu
    | 5, _, hu, hcell => exact hcell.trans hu
    | 6, _, hu, hcell => exact hcell.trans hu
    | 7, _, hu, hcell => exact hcell.trans hu
  · obtain ⟨i, hi, rfl⟩ := RS.mem_map_range hxm
    obtain ⟨ad, e, hc⟩ := hx (by omega)
    exact ⟨(hc i hi 0 (by decide)).2, (hc i hi 1 (by decide)).2, (hc i hi 2 (by decide)).2, (hc i hi 3 (by decide)).2, (hc i hi 4 (by decide)).2, (hc i hi 5 (by decide)).2, (hc i hi 6 (by decide)).2, (hc i hi 7 (by decide)).2⟩
end Go.Proofs.YtmfgajbkcnlkcaaGreat.RT
namespace Go.Proofs.YtmfgajbkcnlkcaaGreat.fnExactBookAccount
open Go.ChangeShapes Go.WideShapes Go.ChangeAt Go.RowKit Go.Proofs.YtmfgajbkcnlkcaaGreatW.PrintWords
open Go.ChangeMaps (open_string shut_string)
set_option linter.unusedVariables false
theorem own : ownKnob Tryz.prog.godebug = none := by kernel_rfl
theorem laidOut : laidOutB Tryz.prog = true := by kernel_rfl
set_option maxRecDepth 100000 in
theorem lifted (os : Os) (started : os.Started) (H : Type) (enc : TypeId × Value → H) :
    ReturnsInHanded {} Tryz.checked os 4 .any (Rows.fnExactBookAccountSpec.pre6 enc Tryz.prog Tryz.f4 Rows.fnExactBookAccountRow.domain false) (Rows.fnExactBookAccountSpec.post enc Tryz.prog Tryz.f4 false true false false) := by
  refine returnsInHanded_of_change_sized (C := Tryz.checked) own started (by kernel_rfl) Tryz.func4
    (ChangeSpec.witness6 (enc := enc) (C := Tryz.checked) false ⟨#[], #[.agg #[.slice none 0 0, .slice none 0 0, .slice none 0 0, .slice none 0 0, .slice none 0 0, .int .i64 0], .int .i64 0, .int .i64 0], []⟩ 8 (by kernel_rfl) (by kernel_rfl) (by kernel_rfl) (by kernel_rfl)) ?_
  intro W base args ds gs before hval0 hW hcnd hsz0 _
  have hsz : (DataW.weightsEach Tryz.prog (Tryz.f4.params.toList ++ Rows.fnExactBookAccountSpec.plain.varTypes Tryz.prog) (ds ++ gs)).all (· ≤ reachBytes) = true := hsz0
  have hval : ∀ (j : Nat) t v, Tryz.f4.params[j]? = some t → args[j]? = some v → Value.okWide Tryz.prog W .any base t v := hval0
  have hW' := hW
  obtain ⟨p, q, hA0, hV, rfl, hfz, hnd⟩ := hW
  have hA : DataW.TrodAll enc Tryz.prog W 0 (fun _ => true) true Tryz.f4.params.toList args.toList ds p := hA0
  rw [Tryz.params4] at hA hval hsz
  obtain ⟨v0, vs0, d0, ds0, p0, q0, hargs, rfl, rfl, h0, r0⟩ := trodAll_cons hA
  obtain ⟨v1, vs1, d1, ds1, p1, q1, rfl, rfl, rfl, h1, r1⟩ := trodAll_cons r0
  obtain ⟨v2, vs2, d2, ds2, p2, q2, rfl, rfl, rfl, h2, r2⟩ := trodAll_cons r1
  obtain ⟨rfl, rfl, rfl⟩ := trodAll_nil r2
  obtain rfl : args = #[v0, v1, v2] := by cases args; simp_all
  obtain ⟨rfl, rfl⟩ := trodVars_none hV
  have k0 := h0
  have lt0 : ∀ x ∈ p0, x.block < W.heap.size := by obtain ⟨m, hm⟩ := k0; exact DataW.trod_lt m _ _ _ hm
  obtain ⟨cs0, n0, rfl, hcl0, hg0⟩ := RS.open_val Tryz.underlying28 (by kernel_rfl) (by kernel_rfl) (hval 0 28 v0 rfl rfl) h0
  have hcn0 : cs0.length = 6 := hcl0.trans (by kernel_rfl)
  clear hcl0
  obtain ⟨b0_0, b0_1, b0_2, b0_3, b0_4, b0_5, rfl⟩ := RS.len6 hcn0
  obtain ⟨y0_0, hy0_0⟩ := hg0 0 _ rfl
  obtain ⟨A0_0, n0_0, c0_0, X0_0, hv0_0, hl0_0, hm0_0, hx0_0⟩ := RS.open_rows Tryz.underlying22 Tryz.underlying103 (by kernel_rfl) (by kernel_rfl) (by kernel_rfl) (v := b0_0) hy0_0
  subst hv0_0
  obtain ⟨l0_0, e0_0, hr0_0, hw0_0⟩ := RT.row103 (Nat.le_trans hl0_0 hm0_0) hx0_0
  subst e0_0
  obtain ⟨y0_1, hy0_1⟩ := hg0 1 _ rfl
  obtain ⟨A0_1, n0_1, c0_1, X0_1, hv0_1, hl0_1, hm0_1, hx0_1⟩ := RS.open_rows Tryz.underlying23 Tryz.underlying105 (by kernel_rfl) (by kernel_rfl) (by kernel_rfl) (v := b0_1) hy0_1
  subst hv0_1
  obtain ⟨l0_1, e0_1, hr0_1, hw0_1⟩ := RT.row105 (Nat.le_trans hl0_1 hm0_1) hx0_1
  subst e0_1
  obtain ⟨y0_2, hy0_2⟩ := hg0 2 _ rfl
  obtain ⟨A0_2, n0_2, c0_2, X0_2, hv0_2, hl0_2, hm0_2, hx0_2⟩ := RS.open_rows Tryz.underlying24 Tryz.underlying108 (by kernel_rfl) (by kernel_rfl) (by kernel_rfl) (v := b0_2) hy0_2
  subst hv0_2
  obtain ⟨l0_2, e0_2, hr0_2, hw0_2⟩ := RT.row108 (Nat.le_trans hl0_2 hm0_2) hx0_2
  subst e0_2
  obtain ⟨y0_3, hy0_3⟩ := hg0 3 _ rfl
  obtain ⟨A0_3, n0_3, c0_3, X0_3, hv0_3, hl0_3, hm0_3, hx0_3⟩ := RS.open_rows Tryz.underlying25 Tryz.underlying112 (by kernel_rfl) (by kernel_rfl) (by kernel_rfl) (v := b0_3) hy0_3
  subst hv0_3
  obtain ⟨l0_3, e0_3, hr0_3, hw0_3⟩ := RT.row112 (Nat.le_trans hl0_3 hm0_3) hx0_3
  subst e0_3
  obtain ⟨y0_4, hy0_4⟩ := hg0 4 _ rfl
  obtain ⟨A0_4, n0_4, c0_4, X0_4, hv0_4, hl0_4, hm0_4, hx0_4⟩ := RS.open_rows Tryz.underlying26 Tryz.underlying114 (by kernel_rfl) (by kernel_rfl) (by kernel_rfl) (v := b0_4) hy0_4
  subst hv0_4
  obtain ⟨l0_4, e0_4, hr0_4, hw0_4⟩ := RT.row114 (Nat.le_trans hl0_4 hm0_4) hx0_4
  subst e0_4
  obtain ⟨y0_5, hy0_5⟩ := hg0 5 _ rfl
  obtain ⟨a0_5, hq0_5, hw0_5⟩ := RS.int_of (v := b0_5) Tryz.underlying3 hy0_5
  subst hq0_5
  obtain ⟨a1, rfl, rfl, rfl, w1⟩ := open_int Tryz.underlying3 (hval 1 3 v1 rfl rfl) h1
  obtain ⟨a2, rfl, rfl, rfl, w2⟩ := open_int Tryz.underlying3 (hval 2 3 v2 rfl rfl) h2
  clear hA0 hval0 hsz0 hsz
  obtain ⟨k, hpure⟩ := Pure.FnExactBookAccount l0_0 l0_1 l0_2 l0_3 l0_4 a0_5 a1 a2 (Kd.C_max hr0_0) hw0_0 (Kd.C_max hr0_1) hw0_1 (Kd.C_max hr0_2) hw0_2 (Kd.C_max hr0_3) hw0_3 (Kd.C_max hr0_4) hw0_4 hw0_5 w1 w2
  refine (AI.root4_ok k _ _ l0_0 _ _ l0_1 _ _ l0_2 _ _ l0_3 _ _ l0_4 a0_5 a1 a2 true W hr0_0 hl0_0 hr0_1 hl0_1 hr0_2 hl0_2 hr0_3 hl0_3 hr0_4 hl0_4 hpure).mono fun e W' hpost => ?_
  obtain ⟨he, hd⟩ := hpost
  have bel : Below W.heap.size W W' := hd
  subst he
  exact ⟨_, rfl, _, _, _, [], _, [], hW', trodAll_mk1 (shut_bool Tryz.underlying4 _), (trodAll_cons_mk (Below.trod laidOut (by kernel_rfl) (of_decide_eq_true (by kernel_rfl)) k0 bel lt0) (trodAll_cons_mk (shut_int Tryz.underlying3 w1) (trodAll_cons_mk (shut_int Tryz.underlying3 w2) trodAll_mk0))), rfl, bel.frame _, fun h => by cases h⟩
theorem over : Rows.fnExactBookAccountRow.holds Tryz.pinned (OpenSpec.ofChange Rows.fnExactBookAccountSpec) :=
  OpenClaim.holds_of_wide 4 Tryz.f4 rfl rfl rfl rfl rfl rfl rfl ⟨rfl, rfl, rfl, rfl, rfl⟩ rfl rfl rfl rfl rfl (by kernel_rfl) Tryz.func4 (by kernel_rfl)
    (of_decide_eq_true (by kernel_rfl)) (by unfold Func.isWrapper; first | (rw [if_pos (by decide +kernel)]; kernel_rfl) | (rw [if_neg (by decide +kernel)]; exact ⟨rfl, rfl⟩))
    (fun os started H enc _ => lifted os started H enc)
theorem proved : Rows.FnExactBookAccountSaid := over
#print axioms proved
end Go.Proofs.YtmfgajbkcnlkcaaGreat.fnExactBookAccount
namespace Go.Proofs.YtmfgajbkcnlkcaaGreat
theorem fnExactBookAccount_holds : Rows.FnExactBookAccountSaid := fnExactBookAccount.proved
end Go.Proofs.YtmfgajbkcnlkcaaGreat
