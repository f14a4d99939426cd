/- What the law FnScaled leans on, cut out of this repo's own texts by a program of this repo: plain functions, the walks that tie the Go calls to them, the law over lists and numbers, and the row. -/
import Derived.Test.YtomanpmffjkkgaaZFnScaled0
import Derived.Test.YtomanpmffjkkgaaProg
import Derived.Below
import Derived.Deep.Draws
import Derived.Deep.AppendLies
import Derived.Maps.AppendAt
import Derived.OwnWalk
import Derived.Laws.BytesArg
import Derived.Laws.MakeOwn
import Derived.Laws.OwnMore
import Derived.Deep.OwnRows
import Derived.Tactics
import Derived.Lib.ConvBytes
import Derived.Laws.Slices
import Derived.WalkKit
import Derived.KernelRfl
import Derived.RowKit3
import Derived.Deep.LoopGhost
import Derived.Deep.QuietTactic
import Derived.BigQuiet
import Derived.WideLaws
import Derived.Deep.DeepCutAuto
import Derived.Deep.CutBlock
import Derived.Deep.RegionHeld3
import Derived.Laws.Rows
import Derived.Lib.AppendStr
import Derived.ArgAppend
import Derived.Laws.IdiomCopy
import Derived.OrdersHeld
import Derived.Laws.BitsLemmas
import Derived.RowKit
import Derived.Lib.SliceRun
import Derived.Shelf.RegionOpenPlain
namespace Go.Proofs.Ytomanpmffjkkgaa
section
open Go Go.RowKit Go.Proofs.YtomanpmffjkkgaaW.PrintWords Go.Proofs.YtomanpmffjkkgaaW.PrintLast Go.Proofs.YtomanpmffjkkgaaW.PrintMore
theorem bb_ {p : Prop} (h : p := by repeat (first | (with_reducible first | exact HB.out | apply below_alloc | apply pw_below_drewN | apply below_drew1) | exact HB.out)) : p := h
theorem bc_ {p : Prop} (h : p := by (try simp only [List.map_toArray, List.map_cons, List.map_nil]); first | done | rfl | (simp only [List.length_drop, List.length_take]; rfl)) : p := h
theorem sp_ {p : Prop} (h : p := by simp only [Act.put, List.setIfInBounds_toArray, List.set_cons_zero, List.set_cons_succ, i64_w, i32_w]; rfl) : p := h
theorem od_ {p : Prop} [Decidable p] (h : decide p = true := by first | (with_reducible assumption) | assumption) : p := of_decide_eq_true h
theorem kr_ {p : Prop} (h : p := by kernel_rfl) : p := h
theorem er_ {p : Prop} (h : p := by first | rfl | (simp [errW_none, errW_some] <;> rfl) | (simp [*, errW_none, errW_some] <;> rfl)) : p := h
theorem pe_ {q p : Prop} (g : q) (h : q → p := by intro g_; (with_reducible repeat (first | apply Kd.R_alloc | apply Kd.R_drewN | apply Kd.R_drew)); exact g_) : p := h g
theorem kp_ {p : Prop} (h : p := by repeat (first | (with_reducible first | exact HK.out | apply Kept.alloc | apply Kept.drewN | apply Kept.drew) | exact HK.out)) : p := h
def ba_ (n m : Nat) : Array Bool := ((List.range n).map fun i => m.testBit i).toArray
theorem pu_ {P : Program} {ops : Array Oper} {Q : Exit → Act → World → Prop} {md : Region.Mode} {S : World → Prop} {ds : List Nat} {fuel : Nat} {l : Array Bool} {a a' : Act} {w : World} {T : Bool × List (List Nat × List Nat)} {oi : Oper} {v : Value} (i n : Nat) (hT : rtab md ops = T) (l' : Array Bool) (h : wpAnyLast P md ops Q S ds fuel l' a' w) (hi : ops[i]? = some oi := by rfl) (hN : oi.dst = some n := by rfl) (hc : anyT T l.toList l'.toList i = true := by kernel_rfl) (hQ : ∀ c a w, Q (.panic c) (a.put oi.dst v) w → Q (.panic c) a w := by exact fun _ _ _ h => h) (hw : Region.wanted oi (yielded ops a.tmps) = true := by rfl) (hv : ∀ w', (execOp a.eval oi).run P w' = .ok (.value v) w' := by intro w'; go_simp; with_reducible rfl) (ha : a.put (some n) v = a' := by simp only [Act.put, List.setIfInBounds_toArray, List.set_cons_zero, List.set_cons_succ, i64_w, i32_w]; rfl) : wpAnyLast P md ops Q S ds (fuel + 1) l a w := pure_ l' hi hN (any_of hT hc) hQ (Or.inl ⟨hw, hv⟩) ha h
theorem sk_ {P : Program} {ops : Array Oper} {Q : Exit → Act → World → Prop} {md : Region.Mode} {S : World → Prop} {ds : List Nat} {fuel : Nat} {l : Array Bool} {a a' : Act} {w : World} {T : Bool × List (List Nat × List Nat)} {oi : Oper} (i n : Nat) (hT : rtab md ops = T) (l' : Array Bool) (h : wpAnyLast P md ops Q S ds fuel l' a' w) (hi : ops[i]? = some oi := by rfl) (hN : oi.dst = some n := by rfl) (hc : anyT T l.toList l'.toList i = true := by kernel_rfl) (hQ : ∀ c a w, Q (.panic c) (a.put oi.dst undef) w → Q (.panic c) a w := by exact fun _ _ _ h => h) (hw : Region.wanted oi (yielded ops a.tmps) = false := by rfl) (ha : a.put (some n) undef = a' := by simp only [Act.put, List.setIfInBounds_toArray, List.set_cons_zero, List.set_cons_succ, i64_w, i32_w]; rfl) : wpAnyLast P md ops Q S ds (fuel + 1) l a w := pure_ l' hi hN (any_of hT hc) hQ (Or.inr ⟨hw, rfl⟩) ha h
theorem ta_ {P : Program} {ops : Array Oper} {Q : Exit → Act → World → Prop} {md : Region.Mode} {S : World → Prop} {ds : List Nat} {fuel : Nat} {l : Array Bool} {a a' : Act} {w : World} {T : Bool × List (List Nat × List Nat)} {B : List Nat} {oi : Oper} {v : Value} (i n : Nat) (hT : rtab md ops = T) (hW : waitsOk T.2 B = true) (hS : S w) (l' : Array Bool) (h : wpAnyLast P md ops Q S ds fuel l' a' w) (hi : ops[i]? = some oi := by rfl) (hN : oi.dst = some n := by rfl) (hc : takeW T B ds l.toList l'.toList i = true := by kernel_rfl) (hQ : ∀ c a w, Q (.panic c) (a.put oi.dst v) w → Q (.panic c) a w := by exact fun _ _ _ h => h) (hw : Region.wanted oi (yielded ops a.tmps) = true := by rfl) (hv : ∀ w', S w' → (execOp a.eval oi).run P w' = .ok (.value v) w' := by intro w' hs_; (try dsimp only at hs_); (repeat (obtain ⟨s_, hs_⟩ := hs_)); go_simp; with_reducible rfl) (ha : a.put (some n) v = a' := by simp only [Act.put, List.setIfInBounds_toArray, List.set_cons_zero, List.set_cons_succ, i64_w, i32_w]; rfl) : wpAnyLast P md ops Q S ds (fuel + 1) l a w := take_ l' hi hN (take_ofW hT hW hc) hQ (Or.inl ⟨hw, hv⟩) hS ha h
theorem rh_ {α : Type} {y v : α} {p q : Prop} (e : y = v) (H : p) (h : y = v → p → q := by intro e_ H_; first | (rw [e_]; with_reducible exact H_) | (have H2_ := (Option.bind_some _ _).symm.trans H_; rw [e_]; with_reducible exact H2_) | (have H2_ := (Option.bind_some _ _).symm.trans H_; with_reducible exact H2_) | with_reducible exact H_ | (rw [e_]; exact H_) | exact H_) : q := h e H
theorem rj_ {α : Type} {y v : α} {p q : Prop} (e : y = v) (H : p) (h : y = v → p → q := by intro e_ H_; first | (rw [e_] at H_; exact H_) | (simp only [e_] at H_ ⊢; exact H_)) : q := h e H
theorem rs_ {p : Prop} (h : p := by first | rfl | (simp; done) | (simp [*]; done)) : p := h
theorem as3_ {p0 p1 p2 : Prop} (x0 : p0) (x1 : p1) (x2 : p2) : Aside0 p0 ∧ Aside0 p1 ∧ Aside0 p2 := ⟨⟨x0⟩, ⟨x1⟩, ⟨x2⟩⟩
end
end Go.Proofs.Ytomanpmffjkkgaa
namespace Go.Proofs.Ytomanpmffjkkgaa.SB
open Go Go.RowKit Go.Proofs.Ytomanpmffjkkgaa Go.Proofs.YtomanpmffjkkgaaW.PrintWords Go.Proofs.YtomanpmffjkkgaaW.PrintLast Go.Proofs.YtomanpmffjkkgaaW.PrintMore
set_option linter.unusedVariables false
set_option linter.unusedSimpArgs false
def slices_swapRangeCmpFunc_int.l0 : Nat → List Int → Int → Int → Int → Int → Option (List Int)
 | 0, _, _, _, _, _ => none
 | k + 1, x0, x1, x2, x3, x10 => if x10 < x3 then (if 0 ≤ (wrap64 (x2 + x10)) then (if (wrap64 (x2 + x10)) < (x0.length : Int) then (if 0 ≤ (wrap64 (x1 + x10)) then (if (wrap64 (x1 + x10)) < (x0.length : Int) then (slices_swapRangeCmpFunc_int.l0 k ((x0.set ((wrap64 (x1 + x10)) : Int).toNat (rd x0 (wrap64 (x2 + x10)))).set ((wrap64 (x2 + x10)) : Int).toNat (rd x0 (wrap64 (x1 + x10)))) x1 x2 x3 (wrap64 (x10 + 1))) else (none)) else (none)) else (none)) else (none)) else (some x0)
def slices_swapRangeCmpFunc_int.f (k : Nat) (l0 : List Int) (a1 : Int) (a2 : Int) (a3 : Int) (a4 : Int) : Option (List Int) := slices_swapRangeCmpFunc_int.l0 k l0 a1 a2 a3 0
def slices_swapRangeCmpFunc_int.T3 : Bool × List (List Nat × List Nat) := (true, [([], []), ([], []), ([], []), ([1, 2], [1, 2]), ([], []), ([], []), ([], []), ([5, 6], [5, 6]), ([], []), ([], []), ([], []), ([9, 10], [9, 10]), ([8, 11], [8, 11]), ([12], [12]), ([], []), ([], []), ([], []), ([15, 16], [15, 16]), ([14, 17], [14, 17]), ([18], [18]), ([0, 3, 0, 1, 2, 3, 8, 9, 10, 11, 12, 13, 19], [0, 3]), ([20, 13, 0, 1, 2, 3, 8, 9, 10, 11, 12, 13, 19], [13, 20]), ([4, 7, 0, 1, 2, 3, 4, 5, 6, 7, 8, 9, 10, 11, 12, 13, 14, 15, 16, 17, 18, 19, 20, 21], [4, 7]), ([22, 19, 21, 0, 1, 2, 3, 4, 5, 6, 7, 8, 9, 10, 11, 12, 13, 14, 15, 16, 17, 18, 19, 20, 21], [19, 22])])
def slices_swapRangeCmpFunc_int.B3 : List Nat := [0, 0, 0, 6, 0, 0, 0, 96, 0, 0, 0, 1536, 3840, 7936, 0, 0, 0, 98304, 245760, 507904, 1048335, 2096911, 4194303, 8388607]
theorem slices_swapRangeCmpFunc_int.tab3 : rtab .any (opsOf Try.f129 3) = slices_swapRangeCmpFunc_int.T3 := by kernel_rfl
theorem slices_swapRangeCmpFunc_int.bits3 : waitsOk slices_swapRangeCmpFunc_int.T3.2 slices_swapRangeCmpFunc_int.B3 = true := by kernel_rfl
set_option maxHeartbeats 8000000 in
set_option maxRecDepth 100000 in
theorem slices_swapRangeCmpFunc_int.calls (k : Nat) (P0_ : Nat → Prop) (u9000_ : Value) (l0 : List Int) (a1 : Int) (a2 : Int) (a3 : Int) (fv : Value) (r : List Int) (w0 w : World) (hB : Below w0.heap.size w0 w) (ho0 : Kd.R (Kd.int .i64) 3 w w0.heap.size P0_ u9000_ l0) (h : slices_swapRangeCmpFunc_int.f k l0 a1 a2 a3 0 = some r) :
 Calls Try.prog 129 #[u9000_, .int .i64 a1, .int .i64 a2, .int .i64 a3, fv] w fun e w' => e = .returned (.tuple #[]) ∧ Kd.R (Kd.int .i64) 3 w' w0.heap.size (fun k_ => (P0_ k_ ∨ w.heap.size ≤ k_)) u9000_ r ∧ Below w0.heap.size w0 w' ∧ Kept w w' (fun k_ => P0_ k_) := by
 have HO0 := Aside0.mk (show Kd.R (Kd.int .i64) 3 w w0.heap.size (fun k_ => (P0_ k_ ∨ w.heap.size ≤ k_)) u9000_ l0 from Kd.R_mono ho0 (fun k_ hk => (.inl hk))); have HK := Aside0.mk (Kept.refl w (fun k_ => P0_ k_)); have HW0 := Aside0.mk hB.size; have HB := Aside0.mk hB; clear hB; have H : (slices_swapRangeCmpFunc_int.l0 k l0 a1 a2 a3 0) = some r := h; clear h; have H' := Aside0.mk H; clear H; go_enter Try.func129, Try.ntmps129; go_wp2; go_loopg [10] k (fun kq v10 w' => ∃ (x0_1 : List Int) (x10_1 : Int), v10 = .int .i64 x10_1 ∧ Aside0 (slices_swapRangeCmpFunc_int.l0 kq x0_1 a1 a2 a3 x10_1 = some r) ∧ Aside0 (kq ≤ k) ∧ Aside0 (Kd.R (Kd.int .i64) 3 w' w0.heap.size (fun k_ => (P0_ k_ ∨ w.heap.size ≤ k_)) u9000_ x0_1) ∧ Aside0 (Kept w w' (fun k_ => P0_ k_)) ∧ Aside0 (Below w0.heap.size w0 w'))
 case atStart => exact ⟨(l0), (0), (rs_), H', ⟨Nat.le_refl _⟩, ⟨pe_ HO0.out⟩, ⟨kp_⟩, ⟨bb_⟩⟩
 case round =>
  clear H'; try clear p2
  try clear c5
  obtain ⟨x0_1, x10_1, rfl, HA, HK1, HO_0, HK, HB⟩ := hrel
  cases gk with
  | zero => exact absurd HA.out (by simp [slices_swapRangeCmpFunc_int.l0])
  | succ k1 =>
   have H := HA.out; clear HA; simp only [slices_swapRangeCmpFunc_int.l0] at H
   by_cases c6 : x10_1 < a3
   ·
    rw [if_pos c6] at H; have c6b0 : decide (x10_1 < a3) = true := decide_eq_true c6; clear c6; obtain ⟨ji7, hji7⟩ : ∃ j_ : Int, (wrap64 (a2 + x10_1)) = j_ := ⟨_, rfl⟩; replace H : (if 0 ≤ (ji7) then (if (ji7) < (x0_1.length : Int) then (if 0 ≤ (wrap64 (a1 + x10_1)) then (if (wrap64 (a1 + x10_1)) < (x0_1.length : Int) then (slices_swapRangeCmpFunc_int.l0 k1 ((x0_1.set ((wrap64 (a1 + x10_1)) : Int).toNat (rd x0_1 (ji7))).set ((ji7) : Int).toNat (rd x0_1 (wrap64 (a1 + x10_1)))) a1 a2 a3 (wrap64 (x10_1 + 1))) else (none)) else (none)) else (none)) else (none)) = some r := rj_ hji7 H; have hji7w : (IntKind.i64.wrap (a2 + x10_1)) = ji7 := (i64_w _).trans hji7
    by_cases c8 : 0 ≤ (ji7)
    ·
     rw [if_pos c8] at H; have c8b0 : decide (0 ≤ (ji7)) = true := decide_eq_true c8; clear c8
     by_cases c9 : (ji7) < (x0_1.length : Int)
     ·
      rw [if_pos c9] at H; have c9b0 : decide ((ji7) < (x0_1.length : Int)) = true := decide_eq_true c9; clear c9; obtain ⟨ji10, hji10⟩ : ∃ j_ : Int, (wrap64 (a1 + x10_1)) = j_ := ⟨_, rfl⟩; replace H : (if 0 ≤ (ji10) then (if (ji10) < (x0_1.length : Int) then (slices_swapRangeCmpFunc_int.l0 k1 ((x0_1.set ((ji10) : Int).toNat (rd x0_1 (ji7))).set ((ji7) : Int).toNat (rd x0_1 (ji10))) a1 a2 a3 (wrap64 (x10_1 + 1))) else (none)) else (none)) = some r := rj_ hji10 H; have hji10w : (IntKind.i64.wrap (a1 + x10_1)) = ji10 := (i64_w _).trans hji10
      by_cases c11 : 0 ≤ (ji10)
      ·
       rw [if_pos c11] at H; have c11b0 : decide (0 ≤ (ji10)) = true := decide_eq_true c11; clear c11
       by_cases c12 : (ji10) < (x0_1.length : Int)
       ·
        rw [if_pos c12] at H; have c12b0 : decide ((ji10) < (x0_1.length : Int)) = true := decide_eq_true c12; clear c12; obtain ⟨y211, hy211⟩ : ∃ y_ : List Int, y_ = (x0_1.set ((ji10) : Int).toNat (rd x0_1 (ji7))) := ⟨_, rfl⟩; replace H : (slices_swapRangeCmpFunc_int.l0 k1 (y211.set ((ji7) : Int).toNat (rd x0_1 (ji10))) a1 a2 a3 (wrap64 (x10_1 + 1))) = some r := rh_ hy211 H; have Ny211 := Aside0.mk hy211; clear hy211; obtain ⟨y212, hy212⟩ : ∃ y_ : List Int, y_ = (y211.set ((ji7) : Int).toNat (rd x0_1 (ji10))) := ⟨_, rfl⟩; replace H : (slices_swapRangeCmpFunc_int.l0 k1 y212 a1 a2 a3 (wrap64 (x10_1 + 1))) = some r := rh_ hy212 H; have Ny212 := Aside0.mk hy212; clear hy212; have H' := Aside0.mk H; clear H; try go_wp2
        have n_ := as3_ (Kd.R_drew HO_0.out) (Kept.drew HK.out) (below_drew1 HB.out); clear HO_0 HK HB; obtain ⟨HO_0, HK, HB⟩ := n_; obtain ⟨Ao16, co16, eo16⟩ := Kd.R_slice HO_0.out; (first | subst eo16 | (injection eo16 with f1_ f2_ f3_; have f4_ := f1_.symm; have f5_ := f3_.symm; clear f1_ f2_ f3_; subst f4_; subst f5_))
        have p209 : 0 ≤ ((ji7) : Int) := od_; have q209 : (ji7) < (x0_1.length : Int) := od_; obtain ⟨ad209, e209, hx209_0⟩ := Kd.at_int (Kd.R_reads' HO_0.out).2.2 (ji7) p209 q209; cases e209; replace p209 := eq_true p209; replace q209 := eq_true q209; have p210 : 0 ≤ ((ji10) : Int) := od_; have q210 : (ji10) < (x0_1.length : Int) := od_; obtain ⟨ad210, e210, hx210_0⟩ := Kd.at_int (Kd.R_reads' HO_0.out).2.2 (ji10) p210 q210; obtain rfl : ad209 = ad210 := (by injection e210)
        replace p210 := eq_true p210; replace q210 := eq_true q210; have p13 : 0 ≤ ((ji10) : Int) := od_; have q13 : ((ji10) : Int) < ((x0_1.length : Int) : Int) := od_; obtain ⟨go13, co13, eo13, gb13, gl13, cl13, HG13⟩ := Kd.R_form HO_0.out (by omega)
        (first | cases eo13 | (injection eo13 with ea_ en_ ec_; (first | subst ea_ | (injection ea_ with ea_; subst ea_)); subst ec_; clear en_))
        have GB13 := Aside0.mk gb13; have GG13 := Aside0.mk HG13; clear gb13 gl13 HG13; have HMgo13 := Aside0.mk (show (P0_ go13 ∨ w.heap.size ≤ go13) from (HO_0.out.1 _ rfl)); (first | simp only [add_plain] at hx209_0 | skip)
        (first | simp only [add_plain] at hx210_0 | skip)
        obtain ⟨hx13_0, hf13_0⟩ := Kd.R_celln 0 HO_0.out ((ji10) : Int) p13 q13; replace p13 := eq_true p13; replace q13 := eq_true q13; have HP17 := Kd.R_putn HO_0.out ((ji10) : Int) (rd x0_1 (ji7)); rw [← Ny211.out] at HP17; have HQ17 := Aside0.mk HP17; clear HP17; have p14 : 0 ≤ ((ji7) : Int) := od_; have q14 : ((ji7) : Int) < ((x0_1.length : Int) : Int) := od_; obtain ⟨hx14_0, hf14_0⟩ := Kd.R_celln 0 HQ17.out ((ji7) : Int) p14 q14; replace p14 := eq_true p14; replace q14 := eq_true q14; have HP18 := Kd.R_putn HQ17.out ((ji7) : Int) (rd x0_1 (ji10)); rw [← Ny212.out] at HP18; have HQ18 := Aside0.mk HP18; clear HP18; refine start_ (n := 24) (S := fun w' => w'.cell? ⟨go13, ((ji7)).toNat, none⟩ = some (.int .i64 (rd x0_1 (ji7))) ∧ w'.cell? ⟨go13, ((ji10)).toNat, none⟩ = some (.int .i64 (rd x0_1 (ji10)))) (ds := [21, 23]) (ba_ 24 0) kr_ rfl rfl ⟨hx209_0, hx210_0⟩ (fun hHeld => ?_); refine with_tabW slices_swapRangeCmpFunc_int.tab3 slices_swapRangeCmpFunc_int.bits3 (fun HT_ HW_ => ?_)
        generalize wr.drew = w15 at HO_0 HK HB GG13 HQ17 HQ18 hf13_0 hf14_0 hx13_0 hx14_0 hx209_0 hx210_0 hHeld ⊢
        refine pu_ 0 16 HT_.out (ba_ 24 1) ?_; refine pu_ 1 17 HT_.out (ba_ 24 3) ?_; refine pu_ 2 18 HT_.out (ba_ 24 7) ?_; refine pu_ 3 19 HT_.out (ba_ 24 15) ?_; refine pu_ 4 20 HT_.out (ba_ 24 31) ?_; refine pu_ 5 21 HT_.out (ba_ 24 63) ?_; refine pu_ 6 22 HT_.out (ba_ 24 127) ?_; refine pu_ 7 23 HT_.out (ba_ 24 255) ?_; refine pu_ 8 24 HT_.out (ba_ 24 511) ?_; refine pu_ 9 25 HT_.out (ba_ 24 1023) ?_; refine pu_ 10 26 HT_.out (ba_ 24 2047) ?_; refine pu_ 11 27 HT_.out (ba_ 24 4095) ?_; refine pu_ 12 28 HT_.out (ba_ 24 8191) ?_; refine pu_ 14 30 HT_.out (ba_ 24 24575) ?_; refine pu_ 15 31 HT_.out (ba_ 24 57343) ?_; refine pu_ 16 32 HT_.out (ba_ 24 122879) ?_; refine pu_ 17 33 HT_.out (ba_ 24 253951) ?_; refine pu_ 18 34 HT_.out (ba_ 24 516095) ?_; refine ta_ 13 29 HT_.out HW_.out hHeld (ba_ 24 524287) ?_; refine ta_ 19 35 HT_.out HW_.out hHeld (ba_ 24 1048575) ?_; refine pu_ 20 36 HT_.out (ba_ 24 2097151) ?_; refine last_ (i := 21) (N := none) (ba_ 24 4194303) rfl rfl (one_of HT_.out kr_) (by decide) (fun K hK => ?_)
        refine skip_ (w1 := ?_) (by rfl) rfl ?_ ?_
        rotate_left
        ·
         go_simp; rfl
        refine hK.out _ _ ?_
        clear hK K; refine pu_ 22 37 HT_.out (ba_ 24 8388607) ?_; refine last_ (i := 23) (N := none) (ba_ 24 16777215) rfl rfl (one_of HT_.out kr_) (by decide) (fun K hK => ?_)
        refine skip_ (w1 := ?_) (by rfl) rfl ?_ ?_
        rotate_left
        ·
         go_simp; rfl
        refine hK.out _ _ ?_
        clear hK K; refine done_ (done_of HT_.out kr_) ?_
        try go_wp2
        go_roundg k1
        case measure => have := HK1.out; omega
        case rel => exact ⟨(y212), (wrap64 (x10_1 + 1)), (rs_), H', ⟨by have := HK1.out; omega⟩, ⟨pe_ HQ18.out⟩, ⟨by repeat (first | (with_reducible first | exact HK.out | apply Kept.alloc | apply Kept.drewN | apply Kept.drew | refine Kept.setCell ?_ HMgo13.out _ | refine Kept.setCell ?_ HMgo13.out _) | exact HK.out)⟩, ⟨by repeat (first | (with_reducible first | exact HB.out | apply below_alloc | apply pw_below_drewN | apply below_drew1 | refine below_set ?_ GB13.out | refine below_set ?_ GB13.out) | exact HB.out)⟩⟩
       ·
        rw [if_neg c12] at H; exact absurd H (by simp)
      ·
       rw [if_neg c11] at H; exact absurd H (by simp)
     ·
      rw [if_neg c9] at H; exact absurd H (by simp)
    ·
     rw [if_neg c8] at H; exact absurd H (by simp)
   ·
    rw [if_neg c6] at H; have c6b0 : decide (x10_1 < a3) = false := decide_eq_false c6; clear c6; obtain rfl := Option.some.inj H; go_wp2; first | go_end0 | ((try simp only [Exit.inBlock, Exit.then]); refine bodyPost_ret (results_none rfl _ _ _) rfl ?_)
    exact ⟨er_, pe_ HO_0.out, bb_, kp_⟩
def slices_rotateCmpFunc_int.l0 : Nat → List Int → Int → Int → Int → Int → Option (List Int)
 | 0, _, _, _, _, _ => none
 | k + 1, x0, x2, x4, x10, x11 => if x10 = x11 then ((slices_swapRangeCmpFunc_int.f k x0 (wrap64 (x2 - x10)) x2 x10 x4).bind fun t213 => (some t213)) else (if x10 > x11 then ((slices_swapRangeCmpFunc_int.f k x0 (wrap64 (x2 - x10)) x2 x11 x4).bind fun t214 => (slices_rotateCmpFunc_int.l0 k t214 x2 x4 (wrap64 (x10 - x11)) x11)) else ((slices_swapRangeCmpFunc_int.f k x0 (wrap64 (x2 - x10)) (wrap64 ((wrap64 (x2 + x11)) - x10)) x10 x4).bind fun t215 => (slices_rotateCmpFunc_int.l0 k t215 x2 x4 x10 (wrap64 (x11 - x10)))))
def slices_rotateCmpFunc_int.f (k : Nat) (l0 : List Int) (a1 : Int) (a2 : Int) (a3 : Int) (a4 : Int) : Option (List Int) := slices_rotateCmpFunc_int.l0 k l0 a2 a4 (wrap64 (a2 - a1)) (wrap64 (a3 - a2))
set_option maxHeartbeats 8000000 in
set_option maxRecDepth 100000 in
theorem slices_rotateCmpFunc_int.calls (k : Nat) (P0_ : Nat → Prop) (u9000_ : Value) (l0 : List Int) (a1 : Int) (a2 : Int) (a3 : Int) (fv : Value) (r : List Int) (w0 w : World) (hB : Below w0.heap.size w0 w) (ho0 : Kd.R (Kd.int .i64) 3 w w0.heap.size P0_ u9000_ l0) (h : slices_rotateCmpFunc_int.f k l0 a1 a2 a3 0 = some r) :
 Calls Try.prog 128 #[u9000_, .int .i64 a1, .int .i64 a2, .int .i64 a3, fv] w fun e w' => e = .returned (.tuple #[]) ∧ Kd.R (Kd.int .i64) 3 w' w0.heap.size (fun k_ => (P0_ k_ ∨ w.heap.size ≤ k_)) u9000_ r ∧ Below w0.heap.size w0 w' ∧ Kept w w' (fun k_ => P0_ k_) := by
 have HO0 := Aside0.mk (show Kd.R (Kd.int .i64) 3 w w0.heap.size (fun k_ => (P0_ k_ ∨ w.heap.size ≤ k_)) u9000_ l0 from Kd.R_mono ho0 (fun k_ hk => (.inl hk))); have HK := Aside0.mk (Kept.refl w (fun k_ => P0_ k_)); have HW0 := Aside0.mk hB.size; have HB := Aside0.mk hB; clear hB; have H : (slices_rotateCmpFunc_int.l0 k l0 a2 0 (wrap64 (a2 - a1)) (wrap64 (a3 - a2))) = some r := h; clear h; have H' := Aside0.mk H; clear H; go_enter Try.func128, Try.ntmps128; go_wp2; go_loopg [10, 11] k (fun kq v10 v11 w' => ∃ (x0_1 : List Int) (x10_1 : Int) (x11_1 : Int), v10 = .int .i64 x10_1 ∧ v11 = .int .i64 x11_1 ∧ Aside0 (slices_rotateCmpFunc_int.l0 kq x0_1 a2 0 x10_1 x11_1 = some r) ∧ Aside0 (kq ≤ k) ∧ Aside0 (Kd.R (Kd.int .i64) 3 w' w0.heap.size (fun k_ => (P0_ k_ ∨ w.heap.size ≤ k_)) u9000_ x0_1) ∧ Aside0 (Kept w w' (fun k_ => P0_ k_)) ∧ Aside0 (Below w0.heap.size w0 w'))
 case atStart => exact ⟨(l0), (wrap64 (a2 - a1)), (wrap64 (a3 - a2)), (rs_), (rs_), H', ⟨Nat.le_refl _⟩, ⟨pe_ HO0.out⟩, ⟨kp_⟩, ⟨bb_⟩⟩
 case round =>
  clear H'; try clear p2
  try clear c5
  obtain ⟨x0_1, x10_1, x11_1, rfl, rfl, HA, HK1, HO_0, HK, HB⟩ := hrel
  cases gk with
  | zero => exact absurd HA.out (by simp [slices_rotateCmpFunc_int.l0])
  | succ k1 =>
   have H := HA.out; clear HA; simp only [slices_rotateCmpFunc_int.l0] at H
   by_cases c6 : x10_1 = x11_1
   ·
    rw [if_pos c6] at H; have c6b0 : (x10_1 == x11_1) = true := beq_iff_eq.mpr c6; have c6b1 : (x10_1 != x11_1) = false := bne_eq_false_iff_eq.mpr c6; clear c6; replace H := Option.bind_eq_some_iff.mp H; obtain ⟨t213, A70, H⟩ := H; have A7 := Aside0.mk A70; clear A70; obtain rfl := Option.some.inj H; obtain ⟨Ao8, co8, eo8⟩ := Kd.R_slice HO_0.out; subst eo8; go_wp2_with (first | ((with_reducible refine gate_callee (f := 129) rfl ?_); refine goesL_ (some 57) rfl rfl Try.func129 kr_ rfl #[.slice Ao8 x0_1.length co8, .int .i64 (wrap64 (a2 - x10_1)), .int .i64 a2, .int .i64 x10_1, fv] rfl (bc_) ?_; (with_reducible refine (slices_swapRangeCmpFunc_int.calls k1 (fun k_ => some k_ = (.slice Ao8 x0_1.length co8 : Value).ownBlock) (.slice Ao8 x0_1.length co8) x0_1 (wrap64 (a2 - x10_1)) a2 x10_1 fv t213 w0 _ ?side1 ?side2 A7.out).mono ?_); (case side1 => repeat (first | (with_reducible first | exact HB.out | apply below_alloc | apply pw_below_drewN | apply below_drew1) | exact HB.out)); (case side2 => exact Kd.R_tight rfl HO_0.out); rintro e w9 ⟨rfl, hy0, hb, hkp⟩; refine ⟨_, rfl, ?_⟩; have n_ := as3_ (Kd.R_reok rfl hy0 (fun k_ e_ => HO_0.out.1 k_ e_)) (Kept.then_ (S := (fun k_ => P0_ k_)) (kp_) hkp (fun k_ hs_ => (fun e_ => (HO_0.out.1 k_ e_.symm)) hs_)) (hb); clear HO_0 HK HB; obtain ⟨HO_0, HK, HB⟩ := n_; (try clear hb); (try clear hkp); (try clear hy0)))
    first | go_end0 | ((try simp only [Exit.inBlock, Exit.then]); refine bodyPost_ret (results_none rfl _ _ _) rfl ?_)
    exact ⟨er_, pe_ HO_0.out, bb_, kp_⟩
   ·
    rw [if_neg c6] at H; have c6b0 : (x10_1 == x11_1) = false := beq_eq_false_iff_ne.mpr c6; have c6b1 : (x10_1 != x11_1) = true := bne_iff_ne.mpr c6
    by_cases c10 : x10_1 > x11_1
    ·
     rw [if_pos c10] at H; have c10b0 : decide (x11_1 < x10_1) = true := decide_eq_true c10; clear c10; replace H := Option.bind_eq_some_iff.mp H; obtain ⟨t214, A110, H⟩ := H; have A11 := Aside0.mk A110; clear A110; have H' := Aside0.mk H; clear H; obtain ⟨Ao12, co12, eo12⟩ := Kd.R_slice HO_0.out; subst eo12; go_wp2_with (first | ((with_reducible refine gate_callee (f := 129) rfl ?_); refine goesL_ (some 31) rfl rfl Try.func129 kr_ rfl #[.slice Ao12 x0_1.length co12, .int .i64 (wrap64 (a2 - x10_1)), .int .i64 a2, .int .i64 x11_1, fv] rfl (bc_) ?_; (with_reducible refine (slices_swapRangeCmpFunc_int.calls k1 (fun k_ => some k_ = (.slice Ao12 x0_1.length co12 : Value).ownBlock) (.slice Ao12 x0_1.length co12) x0_1 (wrap64 (a2 - x10_1)) a2 x11_1 fv t214 w0 _ ?side1 ?side2 A11.out).mono ?_); (case side1 => repeat (first | (with_reducible first | exact HB.out | apply below_alloc | apply pw_below_drewN | apply below_drew1) | exact HB.out)); (case side2 => exact Kd.R_tight rfl HO_0.out); rintro e w13 ⟨rfl, hy0, hb, hkp⟩; refine ⟨_, rfl, ?_⟩; have n_ := as3_ (Kd.R_reok rfl hy0 (fun k_ e_ => HO_0.out.1 k_ e_)) (Kept.then_ (S := (fun k_ => P0_ k_)) (kp_) hkp (fun k_ hs_ => (fun e_ => (HO_0.out.1 k_ e_.symm)) hs_)) (hb); clear HO_0 HK HB; obtain ⟨HO_0, HK, HB⟩ := n_; (try clear hb); (try clear hkp); (try clear hy0)))
     go_roundg k1
     case measure => have := HK1.out; omega
     case rel => exact ⟨(t214), (wrap64 (x10_1 - x11_1)), (x11_1), (rs_), (rs_), H', ⟨by have := HK1.out; omega⟩, ⟨pe_ HO_0.out⟩, ⟨kp_⟩, ⟨bb_⟩⟩
    ·
     rw [if_neg c10] at H; have c10b0 : decide (x11_1 < x10_1) = false := decide_eq_false c10; clear c10; replace H := Option.bind_eq_some_iff.mp H; obtain ⟨t215, A140, H⟩ := H; have A14 := Aside0.mk A140; clear A140; have H' := Aside0.mk H; clear H; obtain ⟨Ao15, co15, eo15⟩ := Kd.R_slice HO_0.out; subst eo15; go_wp2_with (first | ((with_reducible refine gate_callee (f := 129) rfl ?_); refine goesL_ (some 46) rfl rfl Try.func129 kr_ rfl #[.slice Ao15 x0_1.length co15, .int .i64 (wrap64 (a2 - x10_1)), .int .i64 (wrap64 ((wrap64 (a2 + x11_1)) - x10_1)), .int .i64 x10_1, fv] rfl (bc_) ?_; (with_reducible refine (slices_swapRangeCmpFunc_int.calls k1 (fun k_ => some k_ = (.slice Ao15 x0_1.length co15 : Value).ownBlock) (.slice Ao15 x0_1.length co15) x0_1 (wrap64 (a2 - x10_1)) (wrap64 ((wrap64 (a2 + x11_1)) - x10_1)) x10_1 fv t215 w0 _ ?side1 ?side2 A14.out).mono ?_); (case side1 => repeat (first | (with_reducible first | exact HB.out | apply below_alloc | apply pw_below_drewN | apply below_drew1) | exact HB.out)); (case side2 => exact Kd.R_tight rfl HO_0.out); rintro e w16 ⟨rfl, hy0, hb, hkp⟩; refine ⟨_, rfl, ?_⟩; have n_ := as3_ (Kd.R_reok rfl hy0 (fun k_ e_ => HO_0.out.1 k_ e_)) (Kept.then_ (S := (fun k_ => P0_ k_)) (kp_) hkp (fun k_ hs_ => (fun e_ => (HO_0.out.1 k_ e_.symm)) hs_)) (hb); clear HO_0 HK HB; obtain ⟨HO_0, HK, HB⟩ := n_; (try clear hb); (try clear hkp); (try clear hy0)))
     go_roundg k1
     case measure => have := HK1.out; omega
     case rel => exact ⟨(t215), (x10_1), (wrap64 (x11_1 - x10_1)), (rs_), (rs_), H', ⟨by have := HK1.out; omega⟩, ⟨pe_ HO_0.out⟩, ⟨kp_⟩, ⟨bb_⟩⟩
mutual
def slices_insertionSortCmpFunc_int.l0 : Nat → List Int → Int → Int → X1.Cmp → Int → Option (List Int)
 | 0, _, _, _, _, _ => none
 | k + 1, x0, x1, x2, x3, x8 => if x8 < x2 then (slices_insertionSortCmpFunc_int.l1 k x0 x1 x2 x3 x8 x8) else (some x0)
def slices_insertionSortCmpFunc_int.l1 : Nat → List Int → Int → Int → X1.Cmp → Int → Int → Option (List Int)
 | 0, _, _, _, _, _, _ => none
 | k + 1, x0, x1, x2, x3, x8, x9 => if x9 > x1 then (if 0 ≤ x9 then (if x9 < (x0.length : Int) then (if 0 ≤ (wrap64 (x9 - 1)) then (if (wrap64 (x9 - 1)) < (x0.length : Int) then ((x3 (rd x0 x9) (rd x0 (wrap64 (x9 - 1)))).bind fun t204 => (if t204 < 0 then (slices_insertionSortCmpFunc_int.l1 k ((x0.set (x9 : Int).toNat (rd x0 (wrap64 (x9 - 1)))).set ((wrap64 (x9 - 1)) : Int).toNat (rd x0 x9)) x1 x2 x3 x8 (wrap64 (x9 - 1))) else (slices_insertionSortCmpFunc_int.l0 k x0 x1 x2 x3 (wrap64 (x8 + 1))))) else (none)) else (none)) else (none)) else (none)) else (slices_insertionSortCmpFunc_int.l0 k x0 x1 x2 x3 (wrap64 (x8 + 1)))
end
def slices_insertionSortCmpFunc_int.f (k : Nat) (l0 : List Int) (a1 : Int) (a2 : Int) (a3 : X1.Cmp) : Option (List Int) := slices_insertionSortCmpFunc_int.l0 k l0 a1 a2 a3 (wrap64 (a1 + 1))
def slices_insertionSortCmpFunc_int.T4 : Bool × List (List Nat × List Nat) := (true, [([], []), ([], []), ([0, 1], [0, 1]), ([2], [2]), ([3], [3]), ([3], [3]), ([3], [3]), ([5, 6, 3], [3, 5, 6]), ([7, 3], [3, 7]), ([3], [3]), ([3], [3]), ([10, 3], [3, 10]), ([9, 11, 3], [3, 9, 11]), ([12, 3], [3, 12]), ([4, 8, 13, 3, 3], [3, 4, 8, 13]), ([14, 3], [3, 14]), ([3, 15], [3, 15])])
def slices_insertionSortCmpFunc_int.B4 : List Nat := [0, 0, 3, 7, 15, 15, 15, 111, 239, 15, 15, 1039, 3599, 7695, 16383, 32767, 65535]
theorem slices_insertionSortCmpFunc_int.tab4 : rtab .any (opsOf Try.f125 4) = slices_insertionSortCmpFunc_int.T4 := by kernel_rfl
theorem slices_insertionSortCmpFunc_int.bits4 : waitsOk slices_insertionSortCmpFunc_int.T4.2 slices_insertionSortCmpFunc_int.B4 = true := by kernel_rfl
def slices_insertionSortCmpFunc_int.T6 : Bool × List (List Nat × List Nat) := (true, [([], []), ([], []), ([], []), ([], []), ([3], [3]), ([], []), ([], []), ([6], [6]), ([5, 7], [5, 7]), ([8], [8]), ([], []), ([], []), ([10, 11], [10, 11]), ([12], [12]), ([0, 1, 0, 1, 5, 6, 7, 8, 9, 13], [0, 1]), ([14, 9, 0, 1, 5, 6, 7, 8, 9, 13], [9, 14]), ([2, 4, 0, 1, 2, 3, 4, 5, 6, 7, 8, 9, 10, 11, 12, 13, 14, 15], [2, 4]), ([16, 13, 15, 0, 1, 2, 3, 4, 5, 6, 7, 8, 9, 10, 11, 12, 13, 14, 15], [13, 16])])
def slices_insertionSortCmpFunc_int.B6 : List Nat := [0, 0, 0, 0, 8, 0, 0, 64, 224, 480, 0, 0, 3072, 7168, 16355, 32739, 65535, 131071]
theorem slices_insertionSortCmpFunc_int.tab6 : rtab .any (opsOf Try.f125 6) = slices_insertionSortCmpFunc_int.T6 := by kernel_rfl
theorem slices_insertionSortCmpFunc_int.bits6 : waitsOk slices_insertionSortCmpFunc_int.T6.2 slices_insertionSortCmpFunc_int.B6 = true := by kernel_rfl
set_option maxHeartbeats 8000000 in
set_option maxRecDepth 100000 in
theorem slices_insertionSortCmpFunc_int.calls (k : Nat) (P0_ : Nat → Prop) (u9000_ : Value) (l0 : List Int) (a1 : Int) (a2 : Int) (a3 : X1.Cmp) (fc : FuncId) (caps : Array Value) (r : List Int) (w0 w : World) (hB : Below w0.heap.size w0 w) (ho0 : Kd.R (Kd.int .i64) 3 w w0.heap.size P0_ u9000_ l0) (hF_ : X1.FnC Try.prog fc caps w P0_ a3) (h : slices_insertionSortCmpFunc_int.f k l0 a1 a2 a3 = some r) :
 Calls Try.prog 125 #[u9000_, .int .i64 a1, .int .i64 a2, (.func (.func fc) #[] caps)] w fun e w' => e = .returned (.tuple #[]) ∧ Kd.R (Kd.int .i64) 3 w' w0.heap.size (fun k_ => (P0_ k_ ∨ w.heap.size ≤ k_)) u9000_ r ∧ Below w0.heap.size w0 w' ∧ Kept w w' (fun k_ => P0_ k_) := by
 have HF0_ := Aside0.mk hF_; obtain ⟨fn_, hfn_, hnm_, hbd_, hcl_⟩ := hF_; have HFn_ := Aside0.mk hfn_; have HNm_ := Aside0.mk hnm_; have HBd_ := Aside0.mk hbd_; have HCl_ := Aside0.mk hcl_; clear hfn_ hnm_ hbd_ hcl_; have HO0 := Aside0.mk (show Kd.R (Kd.int .i64) 3 w w0.heap.size (fun k_ => (P0_ k_ ∨ w.heap.size ≤ k_)) u9000_ l0 from Kd.R_mono ho0 (fun k_ hk => (.inl hk))); have HK := Aside0.mk (Kept.refl w (fun k_ => P0_ k_)); have HW0 := Aside0.mk hB.size; have HB := Aside0.mk hB; clear hB; have H : (slices_insertionSortCmpFunc_int.l0 k l0 a1 a2 a3 (wrap64 (a1 + 1))) = some r := h; clear h; have H' := Aside0.mk H; clear H; go_enter Try.func125, Try.ntmps125; go_wp2; go_loopg [8] k (fun kq v8 w' => ∃ (x0_1 : List Int) (x8_1 : Int), v8 = .int .i64 x8_1 ∧ Aside0 (slices_insertionSortCmpFunc_int.l0 kq x0_1 a1 a2 a3 x8_1 = some r) ∧ Aside0 (kq ≤ k) ∧ Aside0 (Kd.R (Kd.int .i64) 3 w' w0.heap.size (fun k_ => (P0_ k_ ∨ w.heap.size ≤ k_)) u9000_ x0_1) ∧ Aside0 (Kept w w' (fun k_ => P0_ k_)) ∧ Aside0 (Below w0.heap.size w0 w'))
 case atStart => exact ⟨(l0), (wrap64 (a1 + 1)), (rs_), H', ⟨Nat.le_refl _⟩, ⟨pe_ HO0.out⟩, ⟨kp_⟩, ⟨bb_⟩⟩
 case round =>
  clear H'; try clear p2
  try clear c4
  obtain ⟨x0_1, x8_1, rfl, HA, HK1, HO_0, HK, HB⟩ := hrel
  cases gk with
  | zero => exact absurd HA.out (by simp [slices_insertionSortCmpFunc_int.l0])
  | succ k1 =>
   have H := HA.out; clear HA; simp only [slices_insertionSortCmpFunc_int.l0] at H
   by_cases c5 : x8_1 < a2
   ·
    rw [if_pos c5] at H; have c5b0 : decide (x8_1 < a2) = true := decide_eq_true c5; clear c5; have H' := Aside0.mk H; clear H; go_wp2; go_loopg [9] k1 (fun kq v9 w' => ∃ (x0_2 : List Int) (x9_2 : Int), v9 = .int .i64 x9_2 ∧ Aside0 (slices_insertionSortCmpFunc_int.l1 kq x0_2 a1 a2 a3 x8_1 x9_2 = some r) ∧ Aside0 (kq ≤ k1) ∧ Aside0 (Kd.R (Kd.int .i64) 3 w' w0.heap.size (fun k_ => (P0_ k_ ∨ w.heap.size ≤ k_)) u9000_ x0_2) ∧ Aside0 (Kept w w' (fun k_ => P0_ k_)) ∧ Aside0 (Below w0.heap.size w0 w'))
    case atStart => exact ⟨(x0_1), (x8_1), (rs_), H', ⟨Nat.le_refl _⟩, ⟨pe_ HO_0.out⟩, ⟨kp_⟩, ⟨bb_⟩⟩
    case round =>
     clear H'; (try clear p2); (try clear c4); (try clear c5b0); (try clear p2); obtain ⟨x0_2, x9_2, rfl, HA, HK2, HO_0, HK, HB⟩ := hrel
     cases gk with
     | zero => exact absurd HA.out (by simp [slices_insertionSortCmpFunc_int.l1])
     | succ k2 =>
      have H := HA.out; clear HA; simp only [slices_insertionSortCmpFunc_int.l1] at H
      by_cases c6 : x9_2 > a1
      ·
       rw [if_pos c6] at H; have c6b0 : decide (a1 < x9_2) = true := decide_eq_true c6; clear c6
       by_cases c7 : 0 ≤ x9_2
       ·
        rw [if_pos c7] at H; have c7b0 : decide (0 ≤ x9_2) = true := decide_eq_true c7; clear c7
        by_cases c8 : x9_2 < (x0_2.length : Int)
        ·
         rw [if_pos c8] at H; have c8b0 : decide (x9_2 < (x0_2.length : Int)) = true := decide_eq_true c8; clear c8; obtain ⟨ji9, hji9⟩ : ∃ j_ : Int, (wrap64 (x9_2 - 1)) = j_ := ⟨_, rfl⟩; replace H : (if 0 ≤ (ji9) then (if (ji9) < (x0_2.length : Int) then ((a3 (rd x0_2 x9_2) (rd x0_2 (ji9))).bind fun t204 => (if t204 < 0 then (slices_insertionSortCmpFunc_int.l1 k2 ((x0_2.set (x9_2 : Int).toNat (rd x0_2 (ji9))).set ((ji9) : Int).toNat (rd x0_2 x9_2)) a1 a2 a3 x8_1 ji9) else (slices_insertionSortCmpFunc_int.l0 k2 x0_2 a1 a2 a3 (wrap64 (x8_1 + 1))))) else (none)) else (none)) = some r := rj_ hji9 H; have hji9w : (IntKind.i64.wrap (x9_2 - 1)) = ji9 := (i64_w _).trans hji9
         by_cases c10 : 0 ≤ (ji9)
         ·
          rw [if_pos c10] at H; have c10b0 : decide (0 ≤ (ji9)) = true := decide_eq_true c10; clear c10
          by_cases c11 : (ji9) < (x0_2.length : Int)
          ·
           rw [if_pos c11] at H; have c11b0 : decide ((ji9) < (x0_2.length : Int)) = true := decide_eq_true c11; clear c11; replace H := Option.bind_eq_some_iff.mp H; obtain ⟨t204, A120, H⟩ := H; have A12 := Aside0.mk A120; clear A120
           by_cases c13 : t204 < 0
           ·
            rw [if_pos c13] at H; have c13b0 : decide (t204 < 0) = true := decide_eq_true c13; clear c13; obtain ⟨y207, hy207⟩ : ∃ y_ : List Int, y_ = (x0_2.set (x9_2 : Int).toNat (rd x0_2 (ji9))) := ⟨_, rfl⟩; replace H : (slices_insertionSortCmpFunc_int.l1 k2 (y207.set ((ji9) : Int).toNat (rd x0_2 x9_2)) a1 a2 a3 x8_1 ji9) = some r := rh_ hy207 H; have Ny207 := Aside0.mk hy207; clear hy207; obtain ⟨y208, hy208⟩ : ∃ y_ : List Int, y_ = (y207.set ((ji9) : Int).toNat (rd x0_2 x9_2)) := ⟨_, rfl⟩; replace H : (slices_insertionSortCmpFunc_int.l1 k2 y208 a1 a2 a3 x8_1 ji9) = some r := rh_ hy208 H; have Ny208 := Aside0.mk hy208; clear hy208; have H' := Aside0.mk H; clear H; try go_wp2
            have n_ := as3_ (Kd.R_drew HO_0.out) (Kept.drew HK.out) (below_drew1 HB.out); clear HO_0 HK HB; obtain ⟨HO_0, HK, HB⟩ := n_; obtain ⟨Ao17, co17, eo17⟩ := Kd.R_slice HO_0.out; (first | subst eo17 | (injection eo17 with f1_ f2_ f3_; have f4_ := f1_.symm; have f5_ := f3_.symm; clear f1_ f2_ f3_; subst f4_; subst f5_))
            have p202 : 0 ≤ (x9_2 : Int) := od_; have q202 : x9_2 < (x0_2.length : Int) := od_; obtain ⟨ad202, e202, hx202_0⟩ := Kd.at_int (Kd.R_reads' HO_0.out).2.2 x9_2 p202 q202; cases e202; replace p202 := eq_true p202; replace q202 := eq_true q202; have p203 : 0 ≤ ((ji9) : Int) := od_; have q203 : (ji9) < (x0_2.length : Int) := od_; obtain ⟨ad203, e203, hx203_0⟩ := Kd.at_int (Kd.R_reads' HO_0.out).2.2 (ji9) p203 q203; obtain rfl : ad202 = ad203 := (by injection e203)
            replace p203 := eq_true p203; replace q203 := eq_true q203; refine start_ (n := 17) (S := fun w' => w'.cell? (ad202.add (x9_2).toNat) = some (.int .i64 (rd x0_2 x9_2)) ∧ w'.cell? (ad202.add ((ji9)).toNat) = some (.int .i64 (rd x0_2 (ji9)))) (ds := []) (ba_ 17 0) kr_ rfl rfl ⟨hx202_0, hx203_0⟩ (fun hHeld => ?_); refine with_tabW slices_insertionSortCmpFunc_int.tab4 slices_insertionSortCmpFunc_int.bits4 (fun HT_ HW_ => ?_)
            generalize wr.drew = w16 at HO_0 HK HB hx202_0 hx203_0 hHeld ⊢
            refine pu_ 0 18 HT_.out (ba_ 17 1) ?_; refine pu_ 1 19 HT_.out (ba_ 17 3) ?_; refine pu_ 2 20 HT_.out (ba_ 17 7) ?_; refine pu_ 3 21 HT_.out (ba_ 17 15) ?_; refine pu_ 4 22 HT_.out (ba_ 17 31) ?_; refine pu_ 5 23 HT_.out (ba_ 17 63) ?_; refine pu_ 6 24 HT_.out (ba_ 17 127) ?_; refine pu_ 7 25 HT_.out (ba_ 17 255) ?_; refine pu_ 9 27 HT_.out (ba_ 17 767) ?_; refine pu_ 10 28 HT_.out (ba_ 17 1791) ?_; refine pu_ 11 29 HT_.out (ba_ 17 3839) ?_; refine pu_ 12 30 HT_.out (ba_ 17 7935) ?_; refine ta_ 8 26 HT_.out HW_.out hHeld (ba_ 17 8191) ?_; refine ta_ 13 31 HT_.out HW_.out hHeld (ba_ 17 16383) ?_; refine one_ (i := 14) (N := some 32) (ba_ 17 32767) rfl rfl (one_of HT_.out kr_) (by decide) (fun K hK => ?_)
            refine X1.goesH_ caps HFn_.out HNm_.out HBd_.out #[.int .i64 (rd x0_2 x9_2), .int .i64 (rd x0_2 (ji9))] (by rfl) rfl rfl rfl (by (try simp only [List.map_toArray, List.map_cons, List.map_nil]); first | done | (simp only [hji9]; rfl) | rfl | (simp only [List.length_drop, List.length_take]; rfl)) ?_
            refine (HCl_.out (rd x0_2 x9_2) (rd x0_2 (ji9)) t204 _ (kp_) A12.out).mono ?_
            rintro e w18 ⟨rfl, hb⟩; have HS0_ := (hb.cell (World.block_lt_of_cell? _ _ (hHeld.1))).trans (hHeld.1); have HS1_ := (hb.cell (World.block_lt_of_cell? _ _ (hHeld.2))).trans (hHeld.2); refine ⟨_, rfl, ?_⟩
            have n_ := as3_ (Kd.R_below (pe_ HO_0.out) hb) (Kept.below (S := (fun k_ => P0_ k_)) (kp_) hb) (below_step (bb_) hb); clear HO_0 HK HB; obtain ⟨HO_0, HK, HB⟩ := n_
            
            
            
            
            refine hK.out _ _ ⟨HS0_, HS1_⟩ (fun hHeld => ?_)
            clear hK K; refine norm_ (a' := ?_) ?_ ?_
            rotate_left
            ·
             show Act.put _ (some 32) _ = _
             exact sp_
            refine pu_ 15 33 HT_.out (ba_ 17 65535) ?_; refine pu_ 16 34 HT_.out (ba_ 17 131071) ?_; refine done_ (done_of HT_.out kr_) ?_
            try go_wp2
            have n_ := as3_ (Kd.R_drew HO_0.out) (Kept.drew HK.out) (below_drew1 HB.out); clear HO_0 HK HB; obtain ⟨HO_0, HK, HB⟩ := n_; have p205 : 0 ≤ ((ji9) : Int) := od_; have q205 : (ji9) < (x0_2.length : Int) := od_; obtain ⟨ad205, e205, hx205_0⟩ := Kd.at_int (Kd.R_reads' HO_0.out).2.2 (ji9) p205 q205; obtain rfl : ad202 = ad205 := (by injection e205)
            replace p205 := eq_true p205; replace q205 := eq_true q205; have p206 : 0 ≤ (x9_2 : Int) := od_; have q206 : x9_2 < (x0_2.length : Int) := od_; obtain ⟨ad206, e206, hx206_0⟩ := Kd.at_int (Kd.R_reads' HO_0.out).2.2 x9_2 p206 q206; obtain rfl : ad202 = ad206 := (by injection e206)
            replace p206 := eq_true p206; replace q206 := eq_true q206; have p14 : 0 ≤ (x9_2 : Int) := od_; have q14 : (x9_2 : Int) < ((x0_2.length : Int) : Int) := od_; obtain ⟨go14, co14, eo14, gb14, gl14, cl14, HG14⟩ := Kd.R_form HO_0.out (by omega)
            (first | cases eo14 | (injection eo14 with ea_ en_ ec_; (first | subst ea_ | (injection ea_ with ea_; subst ea_)); subst ec_; clear en_))
            have GB14 := Aside0.mk gb14; have GG14 := Aside0.mk HG14; clear gb14 gl14 HG14; have HMgo14 := Aside0.mk (show (P0_ go14 ∨ w.heap.size ≤ go14) from (HO_0.out.1 _ rfl)); (first | simp only [add_plain] at hx202_0 | skip)
            (first | simp only [add_plain] at hx203_0 | skip)
            (first | simp only [add_plain] at hx205_0 | skip)
            (first | simp only [add_plain] at hx206_0 | skip)
            obtain ⟨hx14_0, hf14_0⟩ := Kd.R_celln 0 HO_0.out (x9_2 : Int) p14 q14; replace p14 := eq_true p14; replace q14 := eq_true q14; have HP20 := Kd.R_putn HO_0.out (x9_2 : Int) (rd x0_2 (ji9)); rw [← Ny207.out] at HP20; have HQ20 := Aside0.mk HP20; clear HP20; have p15 : 0 ≤ ((ji9) : Int) := od_; have q15 : ((ji9) : Int) < ((x0_2.length : Int) : Int) := od_; obtain ⟨hx15_0, hf15_0⟩ := Kd.R_celln 0 HQ20.out ((ji9) : Int) p15 q15; replace p15 := eq_true p15; replace q15 := eq_true q15; have HP21 := Kd.R_putn HQ20.out ((ji9) : Int) (rd x0_2 x9_2); rw [← Ny208.out] at HP21; have HQ21 := Aside0.mk HP21; clear HP21; refine start_ (n := 18) (S := fun w' => w'.cell? ⟨go14, ((ji9)).toNat, none⟩ = some (.int .i64 (rd x0_2 (ji9))) ∧ w'.cell? ⟨go14, (x9_2).toNat, none⟩ = some (.int .i64 (rd x0_2 x9_2))) (ds := [15, 17]) (ba_ 18 0) kr_ rfl rfl ⟨hx205_0, hx206_0⟩ (fun hHeld => ?_); refine with_tabW slices_insertionSortCmpFunc_int.tab6 slices_insertionSortCmpFunc_int.bits6 (fun HT_ HW_ => ?_)
            generalize w18.drew = w19 at HO_0 HK HB GG14 HQ20 HQ21 hf14_0 hf15_0 hx14_0 hx15_0 hx202_0 hx203_0 hx205_0 hx206_0 hHeld ⊢
            refine pu_ 0 37 HT_.out (ba_ 18 1) ?_; refine pu_ 1 38 HT_.out (ba_ 18 3) ?_; refine pu_ 2 39 HT_.out (ba_ 18 7) ?_; refine pu_ 3 40 HT_.out (ba_ 18 15) ?_; refine pu_ 4 41 HT_.out (ba_ 18 31) ?_; refine pu_ 5 42 HT_.out (ba_ 18 63) ?_; refine pu_ 6 43 HT_.out (ba_ 18 127) ?_; refine pu_ 7 44 HT_.out (ba_ 18 255) ?_; refine pu_ 8 45 HT_.out (ba_ 18 511) ?_; refine pu_ 10 47 HT_.out (ba_ 18 1535) ?_; refine pu_ 11 48 HT_.out (ba_ 18 3583) ?_; refine pu_ 12 49 HT_.out (ba_ 18 7679) ?_; refine ta_ 9 46 HT_.out HW_.out hHeld (ba_ 18 8191) ?_; refine ta_ 13 50 HT_.out HW_.out hHeld (ba_ 18 16383) ?_; refine pu_ 14 51 HT_.out (ba_ 18 32767) ?_; refine last_ (i := 15) (N := none) (ba_ 18 65535) rfl rfl (one_of HT_.out kr_) (by decide) (fun K hK => ?_)
            refine skip_ (w1 := ?_) (by rfl) rfl ?_ ?_
            rotate_left
            ·
             go_simp; rfl
            refine hK.out _ _ ?_
            clear hK K; refine pu_ 16 52 HT_.out (ba_ 18 131071) ?_; refine last_ (i := 17) (N := none) (ba_ 18 262143) rfl rfl (one_of HT_.out kr_) (by decide) (fun K hK => ?_)
            refine skip_ (w1 := ?_) (by rfl) rfl ?_ ?_
            rotate_left
            ·
             go_simp; rfl
            refine hK.out _ _ ?_
            clear hK K; refine done_ (done_of HT_.out kr_) ?_
            try go_wp2
            go_roundg k2
            case measure => have := HK1.out; have := HK2.out; omega
            case rel => exact ⟨(y208), (ji9), (by first | rfl | (simp; done) | (simp only [← hji9] <;> (first | rfl | simp)) | (simp [*]; done)), H', ⟨by have := HK1.out; have := HK2.out; omega⟩, ⟨pe_ HQ21.out⟩, ⟨by repeat (first | (with_reducible first | exact HK.out | apply Kept.alloc | apply Kept.drewN | apply Kept.drew | refine Kept.setCell ?_ HMgo14.out _ | refine Kept.setCell ?_ HMgo14.out _) | exact HK.out)⟩, ⟨by repeat (first | (with_reducible first | exact HB.out | apply below_alloc | apply pw_below_drewN | apply below_drew1 | refine below_set ?_ GB14.out | refine below_set ?_ GB14.out) | exact HB.out)⟩⟩
           ·
            rw [if_neg c13] at H; have c13b0 : decide (t204 < 0) = false := decide_eq_false c13; clear c13; have H' := Aside0.mk H; clear H; try go_wp2
            have n_ := as3_ (Kd.R_drew HO_0.out) (Kept.drew HK.out) (below_drew1 HB.out); clear HO_0 HK HB; obtain ⟨HO_0, HK, HB⟩ := n_; obtain ⟨Ao23, co23, eo23⟩ := Kd.R_slice HO_0.out; (first | subst eo23 | (injection eo23 with f1_ f2_ f3_; have f4_ := f1_.symm; have f5_ := f3_.symm; clear f1_ f2_ f3_; subst f4_; subst f5_))
            have p202 : 0 ≤ (x9_2 : Int) := od_; have q202 : x9_2 < (x0_2.length : Int) := od_; obtain ⟨ad202, e202, hx202_0⟩ := Kd.at_int (Kd.R_reads' HO_0.out).2.2 x9_2 p202 q202; cases e202; replace p202 := eq_true p202; replace q202 := eq_true q202; have p203 : 0 ≤ ((ji9) : Int) := od_; have q203 : (ji9) < (x0_2.length : Int) := od_; obtain ⟨ad203, e203, hx203_0⟩ := Kd.at_int (Kd.R_reads' HO_0.out).2.2 (ji9) p203 q203; obtain rfl : ad202 = ad203 := (by injection e203)
            replace p203 := eq_true p203; replace q203 := eq_true q203; refine start_ (n := 17) (S := fun w' => w'.cell? (ad202.add (x9_2).toNat) = some (.int .i64 (rd x0_2 x9_2)) ∧ w'.cell? (ad202.add ((ji9)).toNat) = some (.int .i64 (rd x0_2 (ji9)))) (ds := []) (ba_ 17 0) kr_ rfl rfl ⟨hx202_0, hx203_0⟩ (fun hHeld => ?_); refine with_tabW slices_insertionSortCmpFunc_int.tab4 slices_insertionSortCmpFunc_int.bits4 (fun HT_ HW_ => ?_)
            generalize wr.drew = w22 at HO_0 HK HB hx202_0 hx203_0 hHeld ⊢
            refine pu_ 0 18 HT_.out (ba_ 17 1) ?_; refine pu_ 1 19 HT_.out (ba_ 17 3) ?_; refine pu_ 2 20 HT_.out (ba_ 17 7) ?_; refine pu_ 3 21 HT_.out (ba_ 17 15) ?_; refine pu_ 4 22 HT_.out (ba_ 17 31) ?_; refine pu_ 5 23 HT_.out (ba_ 17 63) ?_; refine pu_ 6 24 HT_.out (ba_ 17 127) ?_; refine pu_ 7 25 HT_.out (ba_ 17 255) ?_; refine pu_ 9 27 HT_.out (ba_ 17 767) ?_; refine pu_ 10 28 HT_.out (ba_ 17 1791) ?_; refine pu_ 11 29 HT_.out (ba_ 17 3839) ?_; refine pu_ 12 30 HT_.out (ba_ 17 7935) ?_; refine ta_ 8 26 HT_.out HW_.out hHeld (ba_ 17 8191) ?_; refine ta_ 13 31 HT_.out HW_.out hHeld (ba_ 17 16383) ?_; refine one_ (i := 14) (N := some 32) (ba_ 17 32767) rfl rfl (one_of HT_.out kr_) (by decide) (fun K hK => ?_)
            refine X1.goesH_ caps HFn_.out HNm_.out HBd_.out #[.int .i64 (rd x0_2 x9_2), .int .i64 (rd x0_2 (ji9))] (by rfl) rfl rfl rfl (by (try simp only [List.map_toArray, List.map_cons, List.map_nil]); first | done | (simp only [hji9]; rfl) | rfl | (simp only [List.length_drop, List.length_take]; rfl)) ?_
            refine (HCl_.out (rd x0_2 x9_2) (rd x0_2 (ji9)) t204 _ (kp_) A12.out).mono ?_
            rintro e w24 ⟨rfl, hb⟩; have HS0_ := (hb.cell (World.block_lt_of_cell? _ _ (hHeld.1))).trans (hHeld.1); have HS1_ := (hb.cell (World.block_lt_of_cell? _ _ (hHeld.2))).trans (hHeld.2); refine ⟨_, rfl, ?_⟩
            have n_ := as3_ (Kd.R_below (pe_ HO_0.out) hb) (Kept.below (S := (fun k_ => P0_ k_)) (kp_) hb) (below_step (bb_) hb); clear HO_0 HK HB; obtain ⟨HO_0, HK, HB⟩ := n_
            
            
            
            
            refine hK.out _ _ ⟨HS0_, HS1_⟩ (fun hHeld => ?_)
            clear hK K; refine norm_ (a' := ?_) ?_ ?_
            rotate_left
            ·
             show Act.put _ (some 32) _ = _
             exact sp_
            refine pu_ 15 33 HT_.out (ba_ 17 65535) ?_; refine pu_ 16 34 HT_.out (ba_ 17 131071) ?_; refine done_ (done_of HT_.out kr_) ?_
            try go_wp2
            go_roundg k2
            case measure => have := HK1.out; have := HK2.out; omega
            case rel => exact ⟨(x0_2), (wrap64 (x8_1 + 1)), (rs_), H', ⟨by have := HK1.out; have := HK2.out; omega⟩, ⟨pe_ HO_0.out⟩, ⟨kp_⟩, ⟨bb_⟩⟩
          ·
           rw [if_neg c11] at H; exact absurd H (by simp)
         ·
          rw [if_neg c10] at H; exact absurd H (by simp)
        ·
         rw [if_neg c8] at H; exact absurd H (by simp)
       ·
        rw [if_neg c7] at H; exact absurd H (by simp)
      ·
       rw [if_neg c6] at H; have c6b0 : decide (a1 < x9_2) = false := decide_eq_false c6; clear c6; have H' := Aside0.mk H; clear H; try go_wp2
       have n_ := as3_ (Kd.R_drew HO_0.out) (Kept.drew HK.out) (below_drew1 HB.out); clear HO_0 HK HB; obtain ⟨HO_0, HK, HB⟩ := n_; refine start_ (n := 17) (S := fun w' => True) (ds := []) (ba_ 17 0) kr_ rfl rfl trivial (fun hHeld => ?_); refine with_tabW slices_insertionSortCmpFunc_int.tab4 slices_insertionSortCmpFunc_int.bits4 (fun HT_ HW_ => ?_)
       generalize wr.drew = w25 at HO_0 HK HB hHeld ⊢
       refine pu_ 0 18 HT_.out (ba_ 17 1) ?_; refine pu_ 1 19 HT_.out (ba_ 17 3) ?_; refine pu_ 2 20 HT_.out (ba_ 17 7) ?_; refine pu_ 3 21 HT_.out (ba_ 17 15) ?_; refine sk_ 4 22 HT_.out (ba_ 17 31) ?_; refine sk_ 5 23 HT_.out (ba_ 17 63) ?_; refine sk_ 6 24 HT_.out (ba_ 17 127) ?_; refine sk_ 7 25 HT_.out (ba_ 17 255) ?_; refine sk_ 8 26 HT_.out (ba_ 17 511) ?_; refine sk_ 9 27 HT_.out (ba_ 17 1023) ?_; refine sk_ 10 28 HT_.out (ba_ 17 2047) ?_; refine sk_ 11 29 HT_.out (ba_ 17 4095) ?_; refine sk_ 12 30 HT_.out (ba_ 17 8191) ?_; refine sk_ 13 31 HT_.out (ba_ 17 16383) ?_; refine sk_ 14 32 HT_.out (ba_ 17 32767) ?_; refine sk_ 15 33 HT_.out (ba_ 17 65535) ?_; refine pu_ 16 34 HT_.out (ba_ 17 131071) ?_; refine done_ (done_of HT_.out kr_) ?_
       try go_wp2
       go_roundg k2
       case measure => have := HK1.out; have := HK2.out; omega
       case rel => exact ⟨(x0_2), (wrap64 (x8_1 + 1)), (rs_), H', ⟨by have := HK1.out; have := HK2.out; omega⟩, ⟨pe_ HO_0.out⟩, ⟨kp_⟩, ⟨bb_⟩⟩
   ·
    rw [if_neg c5] at H; have c5b0 : decide (x8_1 < a2) = false := decide_eq_false c5; clear c5; obtain rfl := Option.some.inj H; go_wp2; first | go_end0 | ((try simp only [Exit.inBlock, Exit.then]); refine bodyPost_ret (results_none rfl _ _ _) rfl ?_)
    exact ⟨er_, pe_ HO_0.out, bb_, kp_⟩
end Go.Proofs.Ytomanpmffjkkgaa.SB
namespace Go.Proofs.Ytomanpmffjkkgaa
section
open Go Go.RowKit Go.Proofs.YtomanpmffjkkgaaW.PrintWords Go.Proofs.YtomanpmffjkkgaaW.PrintLast Go.Proofs.YtomanpmffjkkgaaW.PrintMore
theorem nf_ : ¬ (false = true) := by decide
theorem le_ {p : Prop} (h : p := by first | omega | exact Nat.le_refl _) : p := h
end
end Go.Proofs.Ytomanpmffjkkgaa
namespace Go.Proofs.Ytomanpmffjkkgaa.SB
open Go Go.RowKit Go.Proofs.Ytomanpmffjkkgaa Go.Proofs.YtomanpmffjkkgaaW.PrintWords Go.Proofs.YtomanpmffjkkgaaW.PrintLast Go.Proofs.YtomanpmffjkkgaaW.PrintMore
set_option linter.unusedVariables false
set_option linter.unusedSimpArgs false
mutual
def slices_symMergeCmpFunc_int.l0 : Nat → List Int → Int → X1.Cmp → Int → Int → Option (List Int)
 | 0, _, _, _, _, _ => none
 | k + 1, x0, x1, x4, x10, x11 => if x10 < x11 then (if 0 ≤ (wrap64 ((IntKind.u64.wrap (wrap64 (x10 + x11))) / 2)) then (if (wrap64 ((IntKind.u64.wrap (wrap64 (x10 + x11))) / 2)) < (x0.length : Int) then (if 0 ≤ x1 then (if x1 < (x0.length : Int) then ((x4 (rd x0 (wrap64 ((IntKind.u64.wrap (wrap64 (x10 + x11))) / 2))) (rd x0 x1)).bind fun t218 => (if t218 < 0 then (slices_symMergeCmpFunc_int.l0 k x0 x1 x4 (wrap64 ((wrap64 ((IntKind.u64.wrap (wrap64 (x10 + x11))) / 2)) + 1)) x11) else (slices_symMergeCmpFunc_int.l0 k x0 x1 x4 x10 (wrap64 ((IntKind.u64.wrap (wrap64 (x10 + x11))) / 2))))) else (none)) else (none)) else (none)) else (none)) else (slices_symMergeCmpFunc_int.l1 k x0 x10 x1)
def slices_symMergeCmpFunc_int.l1 : Nat → List Int → Int → Int → Option (List Int)
 | 0, _, _, _ => none
 | k + 1, x0, x10, x13 => if x13 < (wrap64 (x10 - 1)) then (if 0 ≤ (wrap64 (x13 + 1)) then (if (wrap64 (x13 + 1)) < (x0.length : Int) then (if 0 ≤ x13 then (if x13 < (x0.length : Int) then (slices_symMergeCmpFunc_int.l1 k ((x0.set (x13 : Int).toNat (rd x0 (wrap64 (x13 + 1)))).set ((wrap64 (x13 + 1)) : Int).toNat (rd x0 x13)) x10 (wrap64 (x13 + 1))) else (none)) else (none)) else (none)) else (none)) else (some x0)
def slices_symMergeCmpFunc_int.l2 : Nat → List Int → Int → X1.Cmp → Int → Int → Option (List Int)
 | 0, _, _, _, _, _ => none
 | k + 1, x0, x2, x4, x14, x15 => if x14 < x15 then (if 0 ≤ x2 then (if x2 < (x0.length : Int) then (if 0 ≤ (wrap64 ((IntKind.u64.wrap (wrap64 (x14 + x15))) / 2)) then (if (wrap64 ((IntKind.u64.wrap (wrap64 (x14 + x15))) / 2)) < (x0.length : Int) then ((x4 (rd x0 x2) (rd x0 (wrap64 ((IntKind.u64.wrap (wrap64 (x14 + x15))) / 2)))).bind fun t225 => (if t225 < 0 then (slices_symMergeCmpFunc_int.l2 k x0 x2 x4 x14 (wrap64 ((IntKind.u64.wrap (wrap64 (x14 + x15))) / 2))) else (slices_symMergeCmpFunc_int.l2 k x0 x2 x4 (wrap64 ((wrap64 ((IntKind.u64.wrap (wrap64 (x14 + x15))) / 2)) + 1)) x15))) else (none)) else (none)) else (none)) else (none)) else (slices_symMergeCmpFunc_int.l3 k x0 x14 x2)
def slices_symMergeCmpFunc_int.l3 : Nat → List Int → Int → Int → Option (List Int)
 | 0, _, _, _ => none
 | k + 1, x0, x14, x17 => if x17 > x14 then (if 0 ≤ (wrap64 (x17 - 1)) then (if (wrap64 (x17 - 1)) < (x0.length : Int) then (if 0 ≤ x17 then (if x17 < (x0.length : Int) then (slices_symMergeCmpFunc_int.l3 k ((x0.set (x17 : Int).toNat (rd x0 (wrap64 (x17 - 1)))).set ((wrap64 (x17 - 1)) : Int).toNat (rd x0 x17)) x14 (wrap64 (x17 - 1))) else (none)) else (none)) else (none)) else (none)) else (some x0)
def slices_symMergeCmpFunc_int.j4 : Nat → List Int → Int → Int → Int → X1.Cmp → Int → Int → Int → Int → Option (List Int)
 | 0, _, _, _, _, _, _, _, _, _ => none
 | k + 1, x0, x1, x2, x3, x4, x18, x19, x20, x21 => slices_symMergeCmpFunc_int.l4 k x0 x1 x2 x3 x4 x18 x19 x20 x21 (wrap64 (x19 - 1))
def slices_symMergeCmpFunc_int.l4 : Nat → List Int → Int → Int → Int → X1.Cmp → Int → Int → Int → Int → Int → Option (List Int)
 | 0, _, _, _, _, _, _, _, _, _, _ => none
 | k + 1, x0, x1, x2, x3, x4, x18, x19, x20, x21, x22 => if x20 < x21 then (if 0 ≤ (wrap64 (x22 - (wrap64 ((IntKind.u64.wrap (wrap64 (x20 + x21))) / 2)))) then (if (wrap64 (x22 - (wrap64 ((IntKind.u64.wrap (wrap64 (x20 + x21))) / 2)))) < (x0.length : Int) then (if 0 ≤ (wrap64 ((IntKind.u64.wrap (wrap64 (x20 + x21))) / 2)) then (if (wrap64 ((IntKind.u64.wrap (wrap64 (x20 + x21))) / 2)) < (x0.length : Int) then ((x4 (rd x0 (wrap64 (x22 - (wrap64 ((IntKind.u64.wrap (wrap64 (x20 + x21))) / 2))))) (rd x0 (wrap64 ((IntKind.u64.wrap (wrap64 (x20 + x21))) / 2)))).bind fun t232 => (if t232 < 0 then (slices_symMergeCmpFunc_int.l4 k x0 x1 x2 x3 x4 x18 x19 x20 (wrap64 ((IntKind.u64.wrap (wrap64 (x20 + x21))) / 2)) x22) else (slices_symMergeCmpFunc_int.l4 k x0 x1 x2 x3 x4 x18 x19 (wrap64 ((wrap64 ((IntKind.u64.wrap (wrap64 (x20 + x21))) / 2)) + 1)) x21 x22))) else (none)) else (none)) else (none)) else (none)) else (if x20 < x2 then (slices_symMergeCmpFunc_int.j6 k x0 x1 x2 x3 x4 x18 x20 (wrap64 (x19 - x20)) (decide (x2 < (wrap64 (x19 - x20))))) else (slices_symMergeCmpFunc_int.j6 k x0 x1 x2 x3 x4 x18 x20 (wrap64 (x19 - x20)) false))
def slices_symMergeCmpFunc_int.j6 : Nat → List Int → Int → Int → Int → X1.Cmp → Int → Int → Int → Bool → Option (List Int)
 | 0, _, _, _, _, _, _, _, _, _ => none
 | k + 1, x0, x1, x2, x3, x4, x18, x20, x24, x185 => if x185 = true then ((slices_rotateCmpFunc_int.f k x0 x20 x2 x24 0).bind fun t233 => (slices_symMergeCmpFunc_int.j7 k t233 x1 x3 x4 x18 x20 x24)) else (slices_symMergeCmpFunc_int.j7 k x0 x1 x3 x4 x18 x20 x24)
def slices_symMergeCmpFunc_int.j7 : Nat → List Int → Int → Int → X1.Cmp → Int → Int → Int → Option (List Int)
 | 0, _, _, _, _, _, _, _ => none
 | k + 1, x0, x1, x3, x4, x18, x20, x24 => if x1 < x20 then (slices_symMergeCmpFunc_int.j8 k x0 x1 x3 x4 x18 x20 x24 (decide (x20 < x18))) else (slices_symMergeCmpFunc_int.j8 k x0 x1 x3 x4 x18 x20 x24 false)
def slices_symMergeCmpFunc_int.j8 : Nat → List Int → Int → Int → X1.Cmp → Int → Int → Int → Bool → Option (List Int)
 | 0, _, _, _, _, _, _, _, _ => none
 | k + 1, x0, x1, x3, x4, x18, x20, x24, x199 => if x199 = true then ((slices_symMergeCmpFunc_int.f k x0 x1 x20 x18 x4).bind fun t234 => (if x18 < x24 then (if x24 < x3 then ((slices_symMergeCmpFunc_int.f k t234 x18 x24 x3 x4).bind fun t235 => (some t235)) else (some t234)) else (some t234))) else (if x18 < x24 then (if x24 < x3 then ((slices_symMergeCmpFunc_int.f k x0 x18 x24 x3 x4).bind fun t236 => (some t236)) else (some x0)) else (some x0))
def slices_symMergeCmpFunc_int.f : Nat → List Int → Int → Int → Int → X1.Cmp → Option (List Int)
 | 0, _, _, _, _, _ => none
 | k + 1, l0, a1, a2, a3, a4 => if (wrap64 (a2 - a1)) = 1 then (slices_symMergeCmpFunc_int.l0 k l0 a1 a4 a2 a3) else (if (wrap64 (a3 - a2)) = 1 then (slices_symMergeCmpFunc_int.l2 k l0 a2 a4 a1 a2) else (if a2 > (wrap64 ((IntKind.u64.wrap (wrap64 (a1 + a3))) / 2)) then (slices_symMergeCmpFunc_int.j4 k l0 a1 a2 a3 a4 (wrap64 ((IntKind.u64.wrap (wrap64 (a1 + a3))) / 2)) (wrap64 ((wrap64 ((IntKind.u64.wrap (wrap64 (a1 + a3))) / 2)) + a2)) (wrap64 ((wrap64 ((wrap64 ((IntKind.u64.wrap (wrap64 (a1 + a3))) / 2)) + a2)) - a3)) (wrap64 ((IntKind.u64.wrap (wrap64 (a1 + a3))) / 2))) else (slices_symMergeCmpFunc_int.j4 k l0 a1 a2 a3 a4 (wrap64 ((IntKind.u64.wrap (wrap64 (a1 + a3))) / 2)) (wrap64 ((wrap64 ((IntKind.u64.wrap (wrap64 (a1 + a3))) / 2)) + a2)) a1 a2)))
end
def slices_symMergeCmpFunc_int.T5 : Bool × List (List Nat × List Nat) := (true, [([], []), ([], []), ([], []), ([1, 2], [1, 2]), ([3], [3]), ([], []), ([], []), ([5, 6], [5, 6]), ([7], [7]), ([0, 4, 8], [0, 4, 8]), ([9], [9])])
def slices_symMergeCmpFunc_int.B5 : List Nat := [0, 0, 0, 6, 14, 0, 0, 96, 224, 511, 1023]
theorem slices_symMergeCmpFunc_int.tab5 : rtab .any (opsOf Try.f126 5) = slices_symMergeCmpFunc_int.T5 := by kernel_rfl
theorem slices_symMergeCmpFunc_int.bits5 : waitsOk slices_symMergeCmpFunc_int.T5.2 slices_symMergeCmpFunc_int.B5 = true := by kernel_rfl
def slices_symMergeCmpFunc_int.T11 : Bool × List (List Nat × List Nat) := (true, [([], []), ([], []), ([], []), ([], []), ([3], [3]), ([], []), ([], []), ([6], [6]), ([5, 7], [5, 7]), ([8], [8]), ([], []), ([], []), ([10, 11], [10, 11]), ([12], [12]), ([0, 1, 0, 1, 5, 6, 7, 8, 9, 13], [0, 1]), ([14, 9, 0, 1, 5, 6, 7, 8, 9, 13], [9, 14]), ([2, 4, 0, 1, 2, 3, 4, 5, 6, 7, 8, 9, 10, 11, 12, 13, 14, 15], [2, 4]), ([16, 13, 15, 0, 1, 2, 3, 4, 5, 6, 7, 8, 9, 10, 11, 12, 13, 14, 15], [13, 16])])
def slices_symMergeCmpFunc_int.B11 : List Nat := [0, 0, 0, 0, 8, 0, 0, 64, 224, 480, 0, 0, 3072, 7168, 16355, 32739, 65535, 131071]
theorem slices_symMergeCmpFunc_int.tab11 : rtab .any (opsOf Try.f126 11) = slices_symMergeCmpFunc_int.T11 := by kernel_rfl
theorem slices_symMergeCmpFunc_int.bits11 : waitsOk slices_symMergeCmpFunc_int.T11.2 slices_symMergeCmpFunc_int.B11 = true := by kernel_rfl
def slices_symMergeCmpFunc_int.T17 : Bool × List (List Nat × List Nat) := (true, [([], []), ([], []), ([], []), ([1, 2], [1, 2]), ([3], [3]), ([], []), ([], []), ([5, 6], [5, 6]), ([7], [7]), ([0, 4, 8], [0, 4, 8]), ([9], [9]), ([10], [10])])
def slices_symMergeCmpFunc_int.B17 : List Nat := [0, 0, 0, 6, 14, 0, 0, 96, 224, 511, 1023, 2047]
theorem slices_symMergeCmpFunc_int.tab17 : rtab .any (opsOf Try.f126 17) = slices_symMergeCmpFunc_int.T17 := by kernel_rfl
theorem slices_symMergeCmpFunc_int.bits17 : waitsOk slices_symMergeCmpFunc_int.T17.2 slices_symMergeCmpFunc_int.B17 = true := by kernel_rfl
def slices_symMergeCmpFunc_int.T23 : Bool × List (List Nat × List Nat) := (true, [([], []), ([], []), ([], []), ([], []), ([3], [3]), ([], []), ([], []), ([6], [6]), ([5, 7], [5, 7]), ([8], [8]), ([], []), ([], []), ([10, 11], [10, 11]), ([12], [12]), ([0, 1, 0, 1, 5, 6, 7, 8, 9, 13], [0, 1]), ([14, 9, 0, 1, 5, 6, 7, 8, 9, 13], [9, 14]), ([2, 4, 0, 1, 2, 3, 4, 5, 6, 7, 8, 9, 10, 11, 12, 13, 14, 15], [2, 4]), ([16, 13, 15, 0, 1, 2, 3, 4, 5, 6, 7, 8, 9, 10, 11, 12, 13, 14, 15], [13, 16])])
def slices_symMergeCmpFunc_int.B23 : List Nat := [0, 0, 0, 0, 8, 0, 0, 64, 224, 480, 0, 0, 3072, 7168, 16355, 32739, 65535, 131071]
theorem slices_symMergeCmpFunc_int.tab23 : rtab .any (opsOf Try.f126 23) = slices_symMergeCmpFunc_int.T23 := by kernel_rfl
theorem slices_symMergeCmpFunc_int.bits23 : waitsOk slices_symMergeCmpFunc_int.T23.2 slices_symMergeCmpFunc_int.B23 = true := by kernel_rfl
def slices_symMergeCmpFunc_int.T35 : Bool × List (List Nat × List Nat) := (true, [([], []), ([], []), ([], []), ([], []), ([2, 3], [2, 3]), ([1, 4], [1, 4]), ([5], [5]), ([], []), ([], []), ([7, 8], [7, 8]), ([9], [9]), ([0, 6, 10], [0, 6, 10]), ([11], [11]), ([12], [12])])
def slices_symMergeCmpFunc_int.B35 : List Nat := [0, 0, 0, 0, 12, 30, 62, 0, 0, 384, 896, 2047, 4095, 8191]
theorem slices_symMergeCmpFunc_int.tab35 : rtab .any (opsOf Try.f126 35) = slices_symMergeCmpFunc_int.T35 := by kernel_rfl
theorem slices_symMergeCmpFunc_int.bits35 : waitsOk slices_symMergeCmpFunc_int.T35.2 slices_symMergeCmpFunc_int.B35 = true := by kernel_rfl
set_option maxHeartbeats 8000000 in
set_option maxRecDepth 100000 in
theorem slices_symMergeCmpFunc_int.callsA (k : Nat) : ∀ (P0_ : Nat → Prop) (u9000_ : Value) (l0 : List Int) (a1 : Int) (a2 : Int) (a3 : Int) (a4 : X1.Cmp) (fc : FuncId) (caps : Array Value) (r : List Int) (w0 w : World) (hB : Below w0.heap.size w0 w) (ho0 : Kd.R (Kd.int .i64) 3 w w0.heap.size P0_ u9000_ l0) (hF_ : X1.FnC Try.prog fc caps w P0_ a4) (h : slices_symMergeCmpFunc_int.f k l0 a1 a2 a3 a4 = some r), (wrap64 (a2 - a1)) = 1 →
 Calls Try.prog 126 #[u9000_, .int .i64 a1, .int .i64 a2, .int .i64 a3, (.func (.func fc) #[] caps)] w fun e w' => e = .returned (.tuple #[]) ∧ Kd.R (Kd.int .i64) 3 w' w0.heap.size (fun k_ => (P0_ k_ ∨ w.heap.size ≤ k_)) u9000_ r ∧ Below w0.heap.size w0 w' ∧ Kept w w' (fun k_ => P0_ k_) := by
 intro P0_ u9000_ l0 a1 a2 a3 a4 fc caps r w0 w hB ho0 hF_ h c6
 have HF0_ := Aside0.mk hF_; obtain ⟨fn_, hfn_, hnm_, hbd_, hcl_⟩ := hF_; have HFn_ := Aside0.mk hfn_; have HNm_ := Aside0.mk hnm_; have HBd_ := Aside0.mk hbd_; have HCl_ := Aside0.mk hcl_; clear hfn_ hnm_ hbd_ hcl_
 cases k with
 | zero => exact absurd h (by simp [slices_symMergeCmpFunc_int.f])
 | succ k =>
 simp only [slices_symMergeCmpFunc_int.f] at h; have HO0 := Aside0.mk (show Kd.R (Kd.int .i64) 3 w w0.heap.size (fun k_ => (P0_ k_ ∨ w.heap.size ≤ k_)) u9000_ l0 from Kd.R_mono ho0 (fun k_ hk => (.inl hk))); have HK := Aside0.mk (Kept.refl w (fun k_ => P0_ k_)); have HW0 := Aside0.mk hB.size; have HB := Aside0.mk hB; clear hB; have H : (if (wrap64 (a2 - a1)) = 1 then (slices_symMergeCmpFunc_int.l0 k l0 a1 a4 a2 a3) else (if (wrap64 (a3 - a2)) = 1 then (slices_symMergeCmpFunc_int.l2 k l0 a2 a4 a1 a2) else (if a2 > (wrap64 ((IntKind.u64.wrap (wrap64 (a1 + a3))) / 2)) then (slices_symMergeCmpFunc_int.j4 k l0 a1 a2 a3 a4 (wrap64 ((IntKind.u64.wrap (wrap64 (a1 + a3))) / 2)) (wrap64 ((wrap64 ((IntKind.u64.wrap (wrap64 (a1 + a3))) / 2)) + a2)) (wrap64 ((wrap64 ((wrap64 ((IntKind.u64.wrap (wrap64 (a1 + a3))) / 2)) + a2)) - a3)) (wrap64 ((IntKind.u64.wrap (wrap64 (a1 + a3))) / 2))) else (slices_symMergeCmpFunc_int.j4 k l0 a1 a2 a3 a4 (wrap64 ((IntKind.u64.wrap (wrap64 (a1 + a3))) / 2)) (wrap64 ((wrap64 ((IntKind.u64.wrap (wrap64 (a1 + a3))) / 2)) + a2)) a1 a2)))) = some r := h; clear h; rw [if_pos c6] at H; have c6b0 : ((wrap64 (a2 - a1)) == 1) = true := beq_iff_eq.mpr c6; have c6b1 : ((wrap64 (a2 - a1)) != 1) = false := bne_eq_false_iff_eq.mpr c6; clear c6; have H' := Aside0.mk H; clear H; go_enter Try.func126, Try.ntmps126; go_wp2
 go_loopg [10, 11] k (fun kq v10 v11 w' => ∃ (x10_1 : Int) (x11_1 : Int), v10 = .int .i64 x10_1 ∧ v11 = .int .i64 x11_1 ∧ Aside0 (slices_symMergeCmpFunc_int.l0 kq l0 a1 a4 x10_1 x11_1 = some r) ∧ Aside0 (kq ≤ k) ∧ Aside0 (Kd.R (Kd.int .i64) 3 w' w0.heap.size (fun k_ => (P0_ k_ ∨ w.heap.size ≤ k_)) u9000_ l0) ∧ Aside0 (Kept w w' (fun k_ => P0_ k_)) ∧ Aside0 (Below w0.heap.size w0 w'))
 case atStart => exact ⟨(a2), (a3), (rs_), (rs_), H', ⟨Nat.le_refl _⟩, ⟨pe_ HO0.out⟩, ⟨kp_⟩, ⟨bb_⟩⟩
 case round =>
  clear H'; try clear p2
  try clear c4
  try clear c6b0
  try clear c6b1
  try clear p6
  obtain ⟨x10_1, x11_1, rfl, rfl, HA, HK1, HO_0, HK, HB⟩ := hrel
  cases gk with
  | zero => exact absurd HA.out (by simp [slices_symMergeCmpFunc_int.l0])
  | succ k1 =>
   have H := HA.out; clear HA; simp only [slices_symMergeCmpFunc_int.l0] at H
   by_cases c7 : x10_1 < x11_1
   ·
    rw [if_pos c7] at H; have c7b0 : decide (x10_1 < x11_1) = true := decide_eq_true c7; clear c7; obtain ⟨ji8, hji8⟩ : ∃ j_ : Int, (wrap64 ((IntKind.u64.wrap (wrap64 (x10_1 + x11_1))) / 2)) = j_ := ⟨_, rfl⟩; replace H : (if 0 ≤ (ji8) then (if (ji8) < (l0.length : Int) then (if 0 ≤ a1 then (if a1 < (l0.length : Int) then ((a4 (rd l0 (ji8)) (rd l0 a1)).bind fun t218 => (if t218 < 0 then (slices_symMergeCmpFunc_int.l0 k1 l0 a1 a4 (wrap64 ((ji8) + 1)) x11_1) else (slices_symMergeCmpFunc_int.l0 k1 l0 a1 a4 x10_1 ji8))) else (none)) else (none)) else (none)) else (none)) = some r := rj_ hji8 H; have hji8w : (IntKind.i64.wrap ((IntKind.u64.wrap (wrap64 (x10_1 + x11_1))) / 2)) = ji8 := (i64_w _).trans hji8
    by_cases c9 : 0 ≤ (ji8)
    ·
     rw [if_pos c9] at H; have c9b0 : decide (0 ≤ (ji8)) = true := decide_eq_true c9; clear c9
     by_cases c10 : (ji8) < (l0.length : Int)
     ·
      rw [if_pos c10] at H; have c10b0 : decide ((ji8) < (l0.length : Int)) = true := decide_eq_true c10; clear c10
      by_cases c11 : 0 ≤ a1
      ·
       rw [if_pos c11] at H; have c11b0 : decide (0 ≤ a1) = true := decide_eq_true c11; clear c11
       by_cases c12 : a1 < (l0.length : Int)
       ·
        rw [if_pos c12] at H; have c12b0 : decide (a1 < (l0.length : Int)) = true := decide_eq_true c12; clear c12; replace H := Option.bind_eq_some_iff.mp H; obtain ⟨t218, A130, H⟩ := H; have A13 := Aside0.mk A130; clear A130
        by_cases c14 : t218 < 0
        ·
         rw [if_pos c14] at H; have c14b0 : decide (t218 < 0) = true := decide_eq_true c14; clear c14; have H' := Aside0.mk H; clear H; try go_wp2
         have n_ := as3_ (Kd.R_drew HO_0.out) (Kept.drew HK.out) (below_drew1 HB.out); clear HO_0 HK HB; obtain ⟨HO_0, HK, HB⟩ := n_; obtain ⟨Ao16, co16, eo16⟩ := Kd.R_slice HO_0.out; (first | subst eo16 | (injection eo16 with f1_ f2_ f3_; have f4_ := f1_.symm; have f5_ := f3_.symm; clear f1_ f2_ f3_; subst f4_; subst f5_))
         have p216 : 0 ≤ ((ji8) : Int) := od_; have q216 : (ji8) < (l0.length : Int) := od_; obtain ⟨ad216, e216, hx216_0⟩ := Kd.at_int (Kd.R_reads' HO_0.out).2.2 (ji8) p216 q216; cases e216; replace p216 := eq_true p216; replace q216 := eq_true q216; have p217 : 0 ≤ (a1 : Int) := od_; have q217 : a1 < (l0.length : Int) := od_; obtain ⟨ad217, e217, hx217_0⟩ := Kd.at_int (Kd.R_reads' HO_0.out).2.2 a1 p217 q217; obtain rfl : ad216 = ad217 := (by injection e217)
         replace p217 := eq_true p217; replace q217 := eq_true q217; refine start_ (n := 11) (S := fun w' => w'.cell? (ad216.add ((ji8)).toNat) = some (.int .i64 (rd l0 (ji8))) ∧ w'.cell? (ad216.add (a1).toNat) = some (.int .i64 (rd l0 a1))) (ds := []) (ba_ 11 0) kr_ rfl rfl ⟨hx216_0, hx217_0⟩ (fun hHeld => ?_); refine with_tabW slices_symMergeCmpFunc_int.tab5 slices_symMergeCmpFunc_int.bits5 (fun HT_ HW_ => ?_)
         generalize wr.drew = w15 at HO_0 HK HB hx216_0 hx217_0 hHeld ⊢
         refine pu_ 0 40 HT_.out (ba_ 11 1) ?_; refine pu_ 1 41 HT_.out (ba_ 11 3) ?_; refine pu_ 2 42 HT_.out (ba_ 11 7) ?_; refine pu_ 3 43 HT_.out (ba_ 11 15) ?_; refine pu_ 5 45 HT_.out (ba_ 11 47) ?_; refine pu_ 6 46 HT_.out (ba_ 11 111) ?_; refine pu_ 7 47 HT_.out (ba_ 11 239) ?_; refine ta_ 4 44 HT_.out HW_.out hHeld (ba_ 11 255) ?_; refine ta_ 8 48 HT_.out HW_.out hHeld (ba_ 11 511) ?_; refine one_ (i := 9) (N := some 49) (ba_ 11 1023) rfl rfl (one_of HT_.out kr_) (by decide) (fun K hK => ?_)
         refine X1.goesH_ caps HFn_.out HNm_.out HBd_.out #[.int .i64 (rd l0 (ji8)), .int .i64 (rd l0 a1)] (by rfl) rfl rfl rfl (by (try simp only [List.map_toArray, List.map_cons, List.map_nil]); first | done | (simp only [hji8]; rfl) | rfl | (simp only [List.length_drop, List.length_take]; rfl)) ?_
         refine (HCl_.out (rd l0 (ji8)) (rd l0 a1) t218 _ (kp_) A13.out).mono ?_
         rintro e w17 ⟨rfl, hb⟩; have HS0_ := (hb.cell (World.block_lt_of_cell? _ _ (hHeld.1))).trans (hHeld.1); have HS1_ := (hb.cell (World.block_lt_of_cell? _ _ (hHeld.2))).trans (hHeld.2); refine ⟨_, rfl, ?_⟩
         have n_ := as3_ (Kd.R_below (pe_ HO_0.out) hb) (Kept.below (S := (fun k_ => P0_ k_)) (kp_) hb) (below_step (bb_) hb); clear HO_0 HK HB; obtain ⟨HO_0, HK, HB⟩ := n_
         
         
         
         
         refine hK.out _ _ ⟨HS0_, HS1_⟩ (fun hHeld => ?_)
         clear hK K; refine norm_ (a' := ?_) ?_ ?_
         rotate_left
         ·
          show Act.put _ (some 49) _ = _
          exact sp_
         refine pu_ 10 50 HT_.out (ba_ 11 2047) ?_; refine done_ (done_of HT_.out kr_) ?_
         try go_wp2
         go_roundg k1
         case measure => have := HK1.out; omega
         case rel => exact ⟨(wrap64 ((ji8) + 1)), (x11_1), (by first | rfl | (simp; done) | (simp only [← hji8] <;> (first | rfl | simp)) | (simp [*]; done)), (rs_), H', ⟨by have := HK1.out; omega⟩, ⟨pe_ HO_0.out⟩, ⟨kp_⟩, ⟨bb_⟩⟩
        ·
         rw [if_neg c14] at H; have c14b0 : decide (t218 < 0) = false := decide_eq_false c14; clear c14; have H' := Aside0.mk H; clear H; try go_wp2
         have n_ := as3_ (Kd.R_drew HO_0.out) (Kept.drew HK.out) (below_drew1 HB.out); clear HO_0 HK HB; obtain ⟨HO_0, HK, HB⟩ := n_; obtain ⟨Ao19, co19, eo19⟩ := Kd.R_slice HO_0.out; (first | subst eo19 | (injection eo19 with f1_ f2_ f3_; have f4_ := f1_.symm; have f5_ := f3_.symm; clear f1_ f2_ f3_; subst f4_; subst f5_))
         have p216 : 0 ≤ ((ji8) : Int) := od_; have q216 : (ji8) < (l0.length : Int) := od_; obtain ⟨ad216, e216, hx216_0⟩ := Kd.at_int (Kd.R_reads' HO_0.out).2.2 (ji8) p216 q216; cases e216; replace p216 := eq_true p216; replace q216 := eq_true q216; have p217 : 0 ≤ (a1 : Int) := od_; have q217 : a1 < (l0.length : Int) := od_; obtain ⟨ad217, e217, hx217_0⟩ := Kd.at_int (Kd.R_reads' HO_0.out).2.2 a1 p217 q217; obtain rfl : ad216 = ad217 := (by injection e217)
         replace p217 := eq_true p217; replace q217 := eq_true q217; refine start_ (n := 11) (S := fun w' => w'.cell? (ad216.add ((ji8)).toNat) = some (.int .i64 (rd l0 (ji8))) ∧ w'.cell? (ad216.add (a1).toNat) = some (.int .i64 (rd l0 a1))) (ds := []) (ba_ 11 0) kr_ rfl rfl ⟨hx216_0, hx217_0⟩ (fun hHeld => ?_); refine with_tabW slices_symMergeCmpFunc_int.tab5 slices_symMergeCmpFunc_int.bits5 (fun HT_ HW_ => ?_)
         generalize wr.drew = w18 at HO_0 HK HB hx216_0 hx217_0 hHeld ⊢
         refine pu_ 0 40 HT_.out (ba_ 11 1) ?_; refine pu_ 1 41 HT_.out (ba_ 11 3) ?_; refine pu_ 2 42 HT_.out (ba_ 11 7) ?_; refine pu_ 3 43 HT_.out (ba_ 11 15) ?_; refine pu_ 5 45 HT_.out (ba_ 11 47) ?_; refine pu_ 6 46 HT_.out (ba_ 11 111) ?_; refine pu_ 7 47 HT_.out (ba_ 11 239) ?_; refine ta_ 4 44 HT_.out HW_.out hHeld (ba_ 11 255) ?_; refine ta_ 8 48 HT_.out HW_.out hHeld (ba_ 11 511) ?_; refine one_ (i := 9) (N := some 49) (ba_ 11 1023) rfl rfl (one_of HT_.out kr_) (by decide) (fun K hK => ?_)
         refine X1.goesH_ caps HFn_.out HNm_.out HBd_.out #[.int .i64 (rd l0 (ji8)), .int .i64 (rd l0 a1)] (by rfl) rfl rfl rfl (by (try simp only [List.map_toArray, List.map_cons, List.map_nil]); first | done | (simp only [hji8]; rfl) | rfl | (simp only [List.length_drop, List.length_take]; rfl)) ?_
         refine (HCl_.out (rd l0 (ji8)) (rd l0 a1) t218 _ (kp_) A13.out).mono ?_
         rintro e w20 ⟨rfl, hb⟩; have HS0_ := (hb.cell (World.block_lt_of_cell? _ _ (hHeld.1))).trans (hHeld.1); have HS1_ := (hb.cell (World.block_lt_of_cell? _ _ (hHeld.2))).trans (hHeld.2); refine ⟨_, rfl, ?_⟩
         have n_ := as3_ (Kd.R_below (pe_ HO_0.out) hb) (Kept.below (S := (fun k_ => P0_ k_)) (kp_) hb) (below_step (bb_) hb); clear HO_0 HK HB; obtain ⟨HO_0, HK, HB⟩ := n_
         
         
         
         
         refine hK.out _ _ ⟨HS0_, HS1_⟩ (fun hHeld => ?_)
         clear hK K; refine norm_ (a' := ?_) ?_ ?_
         rotate_left
         ·
          show Act.put _ (some 49) _ = _
          exact sp_
         refine pu_ 10 50 HT_.out (ba_ 11 2047) ?_; refine done_ (done_of HT_.out kr_) ?_
         try go_wp2
         go_roundg k1
         case measure => have := HK1.out; omega
         case rel => exact ⟨(x10_1), (ji8), (rs_), (by first | rfl | (simp; done) | (simp only [← hji8] <;> (first | rfl | simp)) | (simp [*]; done)), H', ⟨by have := HK1.out; omega⟩, ⟨pe_ HO_0.out⟩, ⟨kp_⟩, ⟨bb_⟩⟩
       ·
        rw [if_neg c12] at H; exact absurd H (by simp)
      ·
       rw [if_neg c11] at H; exact absurd H (by simp)
     ·
      rw [if_neg c10] at H; exact absurd H (by simp)
    ·
     rw [if_neg c9] at H; exact absurd H (by simp)
   ·
    rw [if_neg c7] at H; have c7b0 : decide (x10_1 < x11_1) = false := decide_eq_false c7; clear c7; have H' := Aside0.mk H; clear H; go_wp2; go_loopg [13] k1 (fun kq v13 w' => ∃ (x0_2 : List Int) (x13_2 : Int), v13 = .int .i64 x13_2 ∧ Aside0 (slices_symMergeCmpFunc_int.l1 kq x0_2 x10_1 x13_2 = some r) ∧ Aside0 (kq ≤ k1) ∧ Aside0 (Kd.R (Kd.int .i64) 3 w' w0.heap.size (fun k_ => (P0_ k_ ∨ w.heap.size ≤ k_)) u9000_ x0_2) ∧ Aside0 (Kept w w' (fun k_ => P0_ k_)) ∧ Aside0 (Below w0.heap.size w0 w'))
    case atStart => exact ⟨(l0), (a1), (rs_), H', ⟨Nat.le_refl _⟩, ⟨pe_ HO_0.out⟩, ⟨kp_⟩, ⟨bb_⟩⟩
    case round =>
     clear H'; (try clear c1); (try clear p2); (try clear q2); (try clear hx2); (try clear c3); (try clear c4); (try clear c6b0); (try clear c6b1); (try clear p6); (try clear c7b0); (try clear c9b0); (try clear c10b0); (try clear c11b0); (try clear c12b0); (try clear c14b0); (try clear hx216_0); (try clear hx217_0); (try clear p2); (try clear p216); (try clear p217); (try clear p6); (try clear q216); (try clear q217); obtain ⟨x0_2, x13_2, rfl, HA, HK2, HO_0, HK, HB⟩ := hrel
     cases gk with
     | zero => exact absurd HA.out (by simp [slices_symMergeCmpFunc_int.l1])
     | succ k2 =>
      have H := HA.out; clear HA; simp only [slices_symMergeCmpFunc_int.l1] at H
      by_cases c21 : x13_2 < (wrap64 (x10_1 - 1))
      ·
       rw [if_pos c21] at H; have c21b0 : decide (x13_2 < (wrap64 (x10_1 - 1))) = true := decide_eq_true c21; clear c21; obtain ⟨ji22, hji22⟩ : ∃ j_ : Int, (wrap64 (x13_2 + 1)) = j_ := ⟨_, rfl⟩; replace H : (if 0 ≤ (ji22) then (if (ji22) < (x0_2.length : Int) then (if 0 ≤ x13_2 then (if x13_2 < (x0_2.length : Int) then (slices_symMergeCmpFunc_int.l1 k2 ((x0_2.set (x13_2 : Int).toNat (rd x0_2 (ji22))).set ((ji22) : Int).toNat (rd x0_2 x13_2)) x10_1 ji22) else (none)) else (none)) else (none)) else (none)) = some r := rj_ hji22 H; have hji22w : (IntKind.i64.wrap (x13_2 + 1)) = ji22 := (i64_w _).trans hji22; (try rw [hji22] at hji8)
       (try rw [hji22] at hji8w)
       by_cases c23 : 0 ≤ (ji22)
       ·
        rw [if_pos c23] at H; have c23b0 : decide (0 ≤ (ji22)) = true := decide_eq_true c23; clear c23
        by_cases c24 : (ji22) < (x0_2.length : Int)
        ·
         rw [if_pos c24] at H; have c24b0 : decide ((ji22) < (x0_2.length : Int)) = true := decide_eq_true c24; clear c24
         by_cases c25 : 0 ≤ x13_2
         ·
          rw [if_pos c25] at H; have c25b0 : decide (0 ≤ x13_2) = true := decide_eq_true c25; clear c25
          by_cases c26 : x13_2 < (x0_2.length : Int)
          ·
           rw [if_pos c26] at H; have c26b0 : decide (x13_2 < (x0_2.length : Int)) = true := decide_eq_true c26; clear c26; obtain ⟨y221, hy221⟩ : ∃ y_ : List Int, y_ = (x0_2.set (x13_2 : Int).toNat (rd x0_2 (ji22))) := ⟨_, rfl⟩; replace H : (slices_symMergeCmpFunc_int.l1 k2 (y221.set ((ji22) : Int).toNat (rd x0_2 x13_2)) x10_1 ji22) = some r := rh_ hy221 H; have Ny221 := Aside0.mk hy221; clear hy221; obtain ⟨y222, hy222⟩ : ∃ y_ : List Int, y_ = (y221.set ((ji22) : Int).toNat (rd x0_2 x13_2)) := ⟨_, rfl⟩; replace H : (slices_symMergeCmpFunc_int.l1 k2 y222 x10_1 ji22) = some r := rh_ hy222 H; have Ny222 := Aside0.mk hy222; clear hy222; have H' := Aside0.mk H; clear H; try go_wp2
           have n_ := as3_ (Kd.R_drew HO_0.out) (Kept.drew HK.out) (below_drew1 HB.out); clear HO_0 HK HB; obtain ⟨HO_0, HK, HB⟩ := n_; obtain ⟨Ao30, co30, eo30⟩ := Kd.R_slice HO_0.out; (first | subst eo30 | (injection eo30 with f1_ f2_ f3_; have f4_ := f1_.symm; have f5_ := f3_.symm; clear f1_ f2_ f3_; subst f4_; subst f5_))
           have p219 : 0 ≤ ((ji22) : Int) := od_; have q219 : (ji22) < (x0_2.length : Int) := od_; obtain ⟨ad219, e219, hx219_0⟩ := Kd.at_int (Kd.R_reads' HO_0.out).2.2 (ji22) p219 q219; cases e219; replace p219 := eq_true p219; replace q219 := eq_true q219; have p220 : 0 ≤ (x13_2 : Int) := od_; have q220 : x13_2 < (x0_2.length : Int) := od_; obtain ⟨ad220, e220, hx220_0⟩ := Kd.at_int (Kd.R_reads' HO_0.out).2.2 x13_2 p220 q220; obtain rfl : ad219 = ad220 := (by injection e220)
           replace p220 := eq_true p220; replace q220 := eq_true q220; have p27 : 0 ≤ (x13_2 : Int) := od_; have q27 : (x13_2 : Int) < ((x0_2.length : Int) : Int) := od_; obtain ⟨go27, co27, eo27, gb27, gl27, cl27, HG27⟩ := Kd.R_form HO_0.out (by omega)
           (first | cases eo27 | (injection eo27 with ea_ en_ ec_; (first | subst ea_ | (injection ea_ with ea_; subst ea_)); subst ec_; clear en_))
           have GB27 := Aside0.mk gb27; have GG27 := Aside0.mk HG27; clear gb27 gl27 HG27; have HMgo27 := Aside0.mk (show (P0_ go27 ∨ w.heap.size ≤ go27) from (HO_0.out.1 _ rfl)); (first | simp only [add_plain] at hx219_0 | skip)
           (first | simp only [add_plain] at hx220_0 | skip)
           obtain ⟨hx27_0, hf27_0⟩ := Kd.R_celln 0 HO_0.out (x13_2 : Int) p27 q27; replace p27 := eq_true p27; replace q27 := eq_true q27; have HP31 := Kd.R_putn HO_0.out (x13_2 : Int) (rd x0_2 (ji22)); rw [← Ny221.out] at HP31; have HQ31 := Aside0.mk HP31; clear HP31; have p28 : 0 ≤ ((ji22) : Int) := od_; have q28 : ((ji22) : Int) < ((x0_2.length : Int) : Int) := od_; obtain ⟨hx28_0, hf28_0⟩ := Kd.R_celln 0 HQ31.out ((ji22) : Int) p28 q28; replace p28 := eq_true p28; replace q28 := eq_true q28; have HP32 := Kd.R_putn HQ31.out ((ji22) : Int) (rd x0_2 x13_2); rw [← Ny222.out] at HP32; have HQ32 := Aside0.mk HP32; clear HP32; refine start_ (n := 18) (S := fun w' => w'.cell? ⟨go27, ((ji22)).toNat, none⟩ = some (.int .i64 (rd x0_2 (ji22))) ∧ w'.cell? ⟨go27, (x13_2).toNat, none⟩ = some (.int .i64 (rd x0_2 x13_2))) (ds := [15, 17]) (ba_ 18 0) kr_ rfl rfl ⟨hx219_0, hx220_0⟩ (fun hHeld => ?_); refine with_tabW slices_symMergeCmpFunc_int.tab11 slices_symMergeCmpFunc_int.bits11 (fun HT_ HW_ => ?_)
           generalize wr.drew = w29 at HO_0 HK HB GG27 HQ31 HQ32 hf27_0 hf28_0 hx219_0 hx220_0 hx27_0 hx28_0 hHeld ⊢
           refine pu_ 0 61 HT_.out (ba_ 18 1) ?_; refine pu_ 1 62 HT_.out (ba_ 18 3) ?_; refine pu_ 2 63 HT_.out (ba_ 18 7) ?_; refine pu_ 3 64 HT_.out (ba_ 18 15) ?_; refine pu_ 4 65 HT_.out (ba_ 18 31) ?_; refine pu_ 5 66 HT_.out (ba_ 18 63) ?_; refine pu_ 6 67 HT_.out (ba_ 18 127) ?_; refine pu_ 7 68 HT_.out (ba_ 18 255) ?_; refine pu_ 8 69 HT_.out (ba_ 18 511) ?_; refine pu_ 10 71 HT_.out (ba_ 18 1535) ?_; refine pu_ 11 72 HT_.out (ba_ 18 3583) ?_; refine pu_ 12 73 HT_.out (ba_ 18 7679) ?_; refine ta_ 9 70 HT_.out HW_.out hHeld (ba_ 18 8191) ?_; refine ta_ 13 74 HT_.out HW_.out hHeld (ba_ 18 16383) ?_; refine pu_ 14 75 HT_.out (ba_ 18 32767) ?_; refine last_ (i := 15) (N := none) (ba_ 18 65535) rfl rfl (one_of HT_.out kr_) (by decide) (fun K hK => ?_)
           refine skip_ (w1 := ?_) (by rfl) rfl ?_ ?_
           rotate_left
           ·
            go_simp; rfl
           refine hK.out _ _ ?_
           clear hK K; refine pu_ 16 76 HT_.out (ba_ 18 131071) ?_; refine last_ (i := 17) (N := none) (ba_ 18 262143) rfl rfl (one_of HT_.out kr_) (by decide) (fun K hK => ?_)
           refine skip_ (w1 := ?_) (by rfl) rfl ?_ ?_
           rotate_left
           ·
            go_simp; rfl
           refine hK.out _ _ ?_
           clear hK K; refine done_ (done_of HT_.out kr_) ?_
           try go_wp2
           go_roundg k2
           case measure => have := HK1.out; have := HK2.out; omega
           case rel => exact ⟨(y222), (ji22), (by first | rfl | (simp; done) | (simp only [← hji22] <;> (first | rfl | simp)) | (simp [*]; done)), H', ⟨by have := HK1.out; have := HK2.out; omega⟩, ⟨pe_ HQ32.out⟩, ⟨by repeat (first | (with_reducible first | exact HK.out | apply Kept.alloc | apply Kept.drewN | apply Kept.drew | refine Kept.setCell ?_ HMgo27.out _ | refine Kept.setCell ?_ HMgo27.out _) | exact HK.out)⟩, ⟨by repeat (first | (with_reducible first | exact HB.out | apply below_alloc | apply pw_below_drewN | apply below_drew1 | refine below_set ?_ GB27.out | refine below_set ?_ GB27.out) | exact HB.out)⟩⟩
          ·
           rw [if_neg c26] at H; exact absurd H (by simp)
         ·
          rw [if_neg c25] at H; exact absurd H (by simp)
        ·
         rw [if_neg c24] at H; exact absurd H (by simp)
       ·
        rw [if_neg c23] at H; exact absurd H (by simp)
      ·
       rw [if_neg c21] at H; have c21b0 : decide (x13_2 < (wrap64 (x10_1 - 1))) = false := decide_eq_false c21; clear c21; obtain rfl := Option.some.inj H; go_wp2; first | go_end0 | ((try simp only [Exit.inBlock, Exit.then]); refine bodyPost_ret (results_none rfl _ _ _) rfl ?_)
       exact ⟨er_, pe_ HO_0.out, bb_, kp_⟩
set_option maxHeartbeats 8000000 in
set_option maxRecDepth 100000 in
theorem slices_symMergeCmpFunc_int.callsB (k : Nat) : ∀ (P0_ : Nat → Prop) (u9000_ : Value) (l0 : List Int) (a1 : Int) (a2 : Int) (a3 : Int) (a4 : X1.Cmp) (fc : FuncId) (caps : Array Value) (r : List Int) (w0 w : World) (hB : Below w0.heap.size w0 w) (ho0 : Kd.R (Kd.int .i64) 3 w w0.heap.size P0_ u9000_ l0) (hF_ : X1.FnC Try.prog fc caps w P0_ a4) (h : slices_symMergeCmpFunc_int.f k l0 a1 a2 a3 a4 = some r), ¬ (wrap64 (a2 - a1)) = 1 →  (wrap64 (a3 - a2)) = 1 →
 Calls Try.prog 126 #[u9000_, .int .i64 a1, .int .i64 a2, .int .i64 a3, (.func (.func fc) #[] caps)] w fun e w' => e = .returned (.tuple #[]) ∧ Kd.R (Kd.int .i64) 3 w' w0.heap.size (fun k_ => (P0_ k_ ∨ w.heap.size ≤ k_)) u9000_ r ∧ Below w0.heap.size w0 w' ∧ Kept w w' (fun k_ => P0_ k_) := by
 intro P0_ u9000_ l0 a1 a2 a3 a4 fc caps r w0 w hB ho0 hF_ h c6 c33
 have HF0_ := Aside0.mk hF_; obtain ⟨fn_, hfn_, hnm_, hbd_, hcl_⟩ := hF_; have HFn_ := Aside0.mk hfn_; have HNm_ := Aside0.mk hnm_; have HBd_ := Aside0.mk hbd_; have HCl_ := Aside0.mk hcl_; clear hfn_ hnm_ hbd_ hcl_
 cases k with
 | zero => exact absurd h (by simp [slices_symMergeCmpFunc_int.f])
 | succ k =>
 simp only [slices_symMergeCmpFunc_int.f] at h; have HO0 := Aside0.mk (show Kd.R (Kd.int .i64) 3 w w0.heap.size (fun k_ => (P0_ k_ ∨ w.heap.size ≤ k_)) u9000_ l0 from Kd.R_mono ho0 (fun k_ hk => (.inl hk))); have HK := Aside0.mk (Kept.refl w (fun k_ => P0_ k_)); have HW0 := Aside0.mk hB.size; have HB := Aside0.mk hB; clear hB; have H : (if (wrap64 (a2 - a1)) = 1 then (slices_symMergeCmpFunc_int.l0 k l0 a1 a4 a2 a3) else (if (wrap64 (a3 - a2)) = 1 then (slices_symMergeCmpFunc_int.l2 k l0 a2 a4 a1 a2) else (if a2 > (wrap64 ((IntKind.u64.wrap (wrap64 (a1 + a3))) / 2)) then (slices_symMergeCmpFunc_int.j4 k l0 a1 a2 a3 a4 (wrap64 ((IntKind.u64.wrap (wrap64 (a1 + a3))) / 2)) (wrap64 ((wrap64 ((IntKind.u64.wrap (wrap64 (a1 + a3))) / 2)) + a2)) (wrap64 ((wrap64 ((wrap64 ((IntKind.u64.wrap (wrap64 (a1 + a3))) / 2)) + a2)) - a3)) (wrap64 ((IntKind.u64.wrap (wrap64 (a1 + a3))) / 2))) else (slices_symMergeCmpFunc_int.j4 k l0 a1 a2 a3 a4 (wrap64 ((IntKind.u64.wrap (wrap64 (a1 + a3))) / 2)) (wrap64 ((wrap64 ((IntKind.u64.wrap (wrap64 (a1 + a3))) / 2)) + a2)) a1 a2)))) = some r := h; clear h; rw [if_neg c6] at H; have c6b0 : ((wrap64 (a2 - a1)) == 1) = false := beq_eq_false_iff_ne.mpr c6; have c6b1 : ((wrap64 (a2 - a1)) != 1) = true := bne_iff_ne.mpr c6; rw [if_pos c33] at H; have c33b0 : ((wrap64 (a3 - a2)) == 1) = true := beq_iff_eq.mpr c33; have c33b1 : ((wrap64 (a3 - a2)) != 1) = false := bne_eq_false_iff_eq.mpr c33; clear c33; have H' := Aside0.mk H; clear H
 go_enter Try.func126, Try.ntmps126; go_wp2; go_loopg [14, 15] k (fun kq v14 v15 w' => ∃ (x14_1 : Int) (x15_1 : Int), v14 = .int .i64 x14_1 ∧ v15 = .int .i64 x15_1 ∧ Aside0 (slices_symMergeCmpFunc_int.l2 kq l0 a2 a4 x14_1 x15_1 = some r) ∧ Aside0 (kq ≤ k) ∧ Aside0 (Kd.R (Kd.int .i64) 3 w' w0.heap.size (fun k_ => (P0_ k_ ∨ w.heap.size ≤ k_)) u9000_ l0) ∧ Aside0 (Kept w w' (fun k_ => P0_ k_)) ∧ Aside0 (Below w0.heap.size w0 w'))
 case atStart => exact ⟨(a1), (a2), (rs_), (rs_), H', ⟨Nat.le_refl _⟩, ⟨pe_ HO0.out⟩, ⟨kp_⟩, ⟨bb_⟩⟩
 case round =>
  clear H'; try clear c1
  try clear c2
  try clear p2
  try clear q2
  try clear hx2
  try clear c3
  try clear c4
  try clear c6
  try clear c6b0
  try clear c6b1
  try clear p6
  try clear c7
  try clear c7b0
  try clear c9
  try clear c9b0
  try clear c10
  try clear c10b0
  try clear c11
  try clear c11b0
  try clear c12
  try clear c12b0
  try clear c14
  try clear c14b0
  try clear c21
  try clear c21b0
  try clear p21
  try clear q21
  try clear hx21
  try clear p22
  try clear q22
  try clear hx22
  try clear c23
  try clear c23b0
  try clear c24
  try clear c24b0
  try clear c25
  try clear c25b0
  try clear c26
  try clear c26b0
  try clear p27
  try clear q27
  try clear hx27
  try clear hf27
  try clear p28
  try clear q28
  try clear hx28
  try clear hf28
  try clear c33b0
  try clear c33b1
  try clear hx216_0
  try clear hx217_0
  try clear hx219_0
  try clear hx220_0
  try clear hx27_0
  try clear hx28_0
  try clear p2
  try clear p216
  try clear p217
  try clear p219
  try clear p220
  try clear p27
  try clear p28
  try clear p6
  try clear q2
  try clear q216
  try clear q217
  try clear q219
  try clear q220
  try clear q27
  try clear q28
  obtain ⟨x14_1, x15_1, rfl, rfl, HA, HK1, HO_0, HK, HB⟩ := hrel
  cases gk with
  | zero => exact absurd HA.out (by simp [slices_symMergeCmpFunc_int.l2])
  | succ k1 =>
   have H := HA.out; clear HA; simp only [slices_symMergeCmpFunc_int.l2] at H
   by_cases c34 : x14_1 < x15_1
   ·
    rw [if_pos c34] at H; have c34b0 : decide (x14_1 < x15_1) = true := decide_eq_true c34; clear c34
    by_cases c35 : 0 ≤ a2
    ·
     rw [if_pos c35] at H; have c35b0 : decide (0 ≤ a2) = true := decide_eq_true c35; clear c35
     by_cases c36 : a2 < (l0.length : Int)
     ·
      rw [if_pos c36] at H; have c36b0 : decide (a2 < (l0.length : Int)) = true := decide_eq_true c36; clear c36; obtain ⟨ji37, hji37⟩ : ∃ j_ : Int, (wrap64 ((IntKind.u64.wrap (wrap64 (x14_1 + x15_1))) / 2)) = j_ := ⟨_, rfl⟩; replace H : (if 0 ≤ (ji37) then (if (ji37) < (l0.length : Int) then ((a4 (rd l0 a2) (rd l0 (ji37))).bind fun t225 => (if t225 < 0 then (slices_symMergeCmpFunc_int.l2 k1 l0 a2 a4 x14_1 ji37) else (slices_symMergeCmpFunc_int.l2 k1 l0 a2 a4 (wrap64 ((ji37) + 1)) x15_1))) else (none)) else (none)) = some r := rj_ hji37 H; have hji37w : (IntKind.i64.wrap ((IntKind.u64.wrap (wrap64 (x14_1 + x15_1))) / 2)) = ji37 := (i64_w _).trans hji37; (try rw [hji37] at hji8)
      (try rw [hji37] at hji8w)
      (try rw [hji37] at hji22)
      (try rw [hji37] at hji22w)
      by_cases c38 : 0 ≤ (ji37)
      ·
       rw [if_pos c38] at H; have c38b0 : decide (0 ≤ (ji37)) = true := decide_eq_true c38; clear c38
       by_cases c39 : (ji37) < (l0.length : Int)
       ·
        rw [if_pos c39] at H; have c39b0 : decide ((ji37) < (l0.length : Int)) = true := decide_eq_true c39; clear c39; replace H := Option.bind_eq_some_iff.mp H; obtain ⟨t225, A400, H⟩ := H; have A40 := Aside0.mk A400; clear A400
        by_cases c41 : t225 < 0
        ·
         rw [if_pos c41] at H; have c41b0 : decide (t225 < 0) = true := decide_eq_true c41; clear c41; have H' := Aside0.mk H; clear H; try go_wp2
         have n_ := as3_ (Kd.R_drew HO_0.out) (Kept.drew HK.out) (below_drew1 HB.out); clear HO_0 HK HB; obtain ⟨HO_0, HK, HB⟩ := n_; obtain ⟨Ao43, co43, eo43⟩ := Kd.R_slice HO_0.out; (first | subst eo43 | (injection eo43 with f1_ f2_ f3_; have f4_ := f1_.symm; have f5_ := f3_.symm; clear f1_ f2_ f3_; subst f4_; subst f5_))
         have p223 : 0 ≤ (a2 : Int) := od_; have q223 : a2 < (l0.length : Int) := od_; obtain ⟨ad223, e223, hx223_0⟩ := Kd.at_int (Kd.R_reads' HO_0.out).2.2 a2 p223 q223; cases e223; replace p223 := eq_true p223; replace q223 := eq_true q223; have p224 : 0 ≤ ((ji37) : Int) := od_; have q224 : (ji37) < (l0.length : Int) := od_; obtain ⟨ad224, e224, hx224_0⟩ := Kd.at_int (Kd.R_reads' HO_0.out).2.2 (ji37) p224 q224; obtain rfl : ad223 = ad224 := (by injection e224)
         replace p224 := eq_true p224; replace q224 := eq_true q224; refine start_ (n := 12) (S := fun w' => w'.cell? (ad223.add (a2).toNat) = some (.int .i64 (rd l0 a2)) ∧ w'.cell? (ad223.add ((ji37)).toNat) = some (.int .i64 (rd l0 (ji37)))) (ds := []) (ba_ 12 0) kr_ rfl rfl ⟨hx223_0, hx224_0⟩ (fun hHeld => ?_); refine with_tabW slices_symMergeCmpFunc_int.tab17 slices_symMergeCmpFunc_int.bits17 (fun HT_ HW_ => ?_)
         generalize wr.drew = w42 at HO_0 HK HB hx223_0 hx224_0 hHeld ⊢
         refine pu_ 0 92 HT_.out (ba_ 12 1) ?_; refine pu_ 1 93 HT_.out (ba_ 12 3) ?_; refine pu_ 2 94 HT_.out (ba_ 12 7) ?_; refine pu_ 3 95 HT_.out (ba_ 12 15) ?_; refine pu_ 5 97 HT_.out (ba_ 12 47) ?_; refine pu_ 6 98 HT_.out (ba_ 12 111) ?_; refine pu_ 7 99 HT_.out (ba_ 12 239) ?_; refine ta_ 4 96 HT_.out HW_.out hHeld (ba_ 12 255) ?_; refine ta_ 8 100 HT_.out HW_.out hHeld (ba_ 12 511) ?_; refine one_ (i := 9) (N := some 101) (ba_ 12 1023) rfl rfl (one_of HT_.out kr_) (by decide) (fun K hK => ?_)
         refine X1.goesH_ caps HFn_.out HNm_.out HBd_.out #[.int .i64 (rd l0 a2), .int .i64 (rd l0 (ji37))] (by rfl) rfl rfl rfl (by (try simp only [List.map_toArray, List.map_cons, List.map_nil]); first | done | (simp only [hji37]; rfl) | rfl | (simp only [List.length_drop, List.length_take]; rfl)) ?_
         refine (HCl_.out (rd l0 a2) (rd l0 (ji37)) t225 _ (kp_) A40.out).mono ?_
         rintro e w44 ⟨rfl, hb⟩; have HS0_ := (hb.cell (World.block_lt_of_cell? _ _ (hHeld.1))).trans (hHeld.1); have HS1_ := (hb.cell (World.block_lt_of_cell? _ _ (hHeld.2))).trans (hHeld.2); refine ⟨_, rfl, ?_⟩
         have n_ := as3_ (Kd.R_below (pe_ HO_0.out) hb) (Kept.below (S := (fun k_ => P0_ k_)) (kp_) hb) (below_step (bb_) hb); clear HO_0 HK HB; obtain ⟨HO_0, HK, HB⟩ := n_
         
         
         
         
         refine hK.out _ _ ⟨HS0_, HS1_⟩ (fun hHeld => ?_)
         clear hK K; refine norm_ (a' := ?_) ?_ ?_
         rotate_left
         ·
          show Act.put _ (some 101) _ = _
          exact sp_
         refine pu_ 10 102 HT_.out (ba_ 12 2047) ?_; refine pu_ 11 103 HT_.out (ba_ 12 4095) ?_; refine done_ (done_of HT_.out kr_) ?_
         try go_wp2
         go_roundg k1
         case measure => have := HK1.out; omega
         case rel => exact ⟨(x14_1), (ji37), (rs_), (by first | rfl | (simp; done) | (simp only [← hji37] <;> (first | rfl | simp)) | (simp [*]; done)), H', ⟨by have := HK1.out; omega⟩, ⟨pe_ HO_0.out⟩, ⟨kp_⟩, ⟨bb_⟩⟩
        ·
         rw [if_neg c41] at H; have c41b0 : decide (t225 < 0) = false := decide_eq_false c41; clear c41; have H' := Aside0.mk H; clear H; try go_wp2
         have n_ := as3_ (Kd.R_drew HO_0.out) (Kept.drew HK.out) (below_drew1 HB.out); clear HO_0 HK HB; obtain ⟨HO_0, HK, HB⟩ := n_; obtain ⟨Ao46, co46, eo46⟩ := Kd.R_slice HO_0.out; (first | subst eo46 | (injection eo46 with f1_ f2_ f3_; have f4_ := f1_.symm; have f5_ := f3_.symm; clear f1_ f2_ f3_; subst f4_; subst f5_))
         have p223 : 0 ≤ (a2 : Int) := od_; have q223 : a2 < (l0.length : Int) := od_; obtain ⟨ad223, e223, hx223_0⟩ := Kd.at_int (Kd.R_reads' HO_0.out).2.2 a2 p223 q223; cases e223; replace p223 := eq_true p223; replace q223 := eq_true q223; have p224 : 0 ≤ ((ji37) : Int) := od_; have q224 : (ji37) < (l0.length : Int) := od_; obtain ⟨ad224, e224, hx224_0⟩ := Kd.at_int (Kd.R_reads' HO_0.out).2.2 (ji37) p224 q224; obtain rfl : ad223 = ad224 := (by injection e224)
         replace p224 := eq_true p224; replace q224 := eq_true q224; refine start_ (n := 12) (S := fun w' => w'.cell? (ad223.add (a2).toNat) = some (.int .i64 (rd l0 a2)) ∧ w'.cell? (ad223.add ((ji37)).toNat) = some (.int .i64 (rd l0 (ji37)))) (ds := []) (ba_ 12 0) kr_ rfl rfl ⟨hx223_0, hx224_0⟩ (fun hHeld => ?_); refine with_tabW slices_symMergeCmpFunc_int.tab17 slices_symMergeCmpFunc_int.bits17 (fun HT_ HW_ => ?_)
         generalize wr.drew = w45 at HO_0 HK HB hx223_0 hx224_0 hHeld ⊢
         refine pu_ 0 92 HT_.out (ba_ 12 1) ?_; refine pu_ 1 93 HT_.out (ba_ 12 3) ?_; refine pu_ 2 94 HT_.out (ba_ 12 7) ?_; refine pu_ 3 95 HT_.out (ba_ 12 15) ?_; refine pu_ 5 97 HT_.out (ba_ 12 47) ?_; refine pu_ 6 98 HT_.out (ba_ 12 111) ?_; refine pu_ 7 99 HT_.out (ba_ 12 239) ?_; refine ta_ 4 96 HT_.out HW_.out hHeld (ba_ 12 255) ?_; refine ta_ 8 100 HT_.out HW_.out hHeld (ba_ 12 511) ?_; refine one_ (i := 9) (N := some 101) (ba_ 12 1023) rfl rfl (one_of HT_.out kr_) (by decide) (fun K hK => ?_)
         refine X1.goesH_ caps HFn_.out HNm_.out HBd_.out #[.int .i64 (rd l0 a2), .int .i64 (rd l0 (ji37))] (by rfl) rfl rfl rfl (by (try simp only [List.map_toArray, List.map_cons, List.map_nil]); first | done | (simp only [hji37]; rfl) | rfl | (simp only [List.length_drop, List.length_take]; rfl)) ?_
         refine (HCl_.out (rd l0 a2) (rd l0 (ji37)) t225 _ (kp_) A40.out).mono ?_
         rintro e w47 ⟨rfl, hb⟩; have HS0_ := (hb.cell (World.block_lt_of_cell? _ _ (hHeld.1))).trans (hHeld.1); have HS1_ := (hb.cell (World.block_lt_of_cell? _ _ (hHeld.2))).trans (hHeld.2); refine ⟨_, rfl, ?_⟩
         have n_ := as3_ (Kd.R_below (pe_ HO_0.out) hb) (Kept.below (S := (fun k_ => P0_ k_)) (kp_) hb) (below_step (bb_) hb); clear HO_0 HK HB; obtain ⟨HO_0, HK, HB⟩ := n_
         
         
         
         
         refine hK.out _ _ ⟨HS0_, HS1_⟩ (fun hHeld => ?_)
         clear hK K; refine norm_ (a' := ?_) ?_ ?_
         rotate_left
         ·
          show Act.put _ (some 101) _ = _
          exact sp_
         refine pu_ 10 102 HT_.out (ba_ 12 2047) ?_; refine pu_ 11 103 HT_.out (ba_ 12 4095) ?_; refine done_ (done_of HT_.out kr_) ?_
         try go_wp2
         go_roundg k1
         case measure => have := HK1.out; omega
         case rel => exact ⟨(wrap64 ((ji37) + 1)), (x15_1), (by first | rfl | (simp; done) | (simp only [← hji37] <;> (first | rfl | simp)) | (simp [*]; done)), (rs_), H', ⟨by have := HK1.out; omega⟩, ⟨pe_ HO_0.out⟩, ⟨kp_⟩, ⟨bb_⟩⟩
       ·
        rw [if_neg c39] at H; exact absurd H (by simp)
      ·
       rw [if_neg c38] at H; exact absurd H (by simp)
     ·
      rw [if_neg c36] at H; exact absurd H (by simp)
    ·
     rw [if_neg c35] at H; exact absurd H (by simp)
   ·
    rw [if_neg c34] at H; have c34b0 : decide (x14_1 < x15_1) = false := decide_eq_false c34; clear c34; have H' := Aside0.mk H; clear H; go_wp2; go_loopg [17] k1 (fun kq v17 w' => ∃ (x0_2 : List Int) (x17_2 : Int), v17 = .int .i64 x17_2 ∧ Aside0 (slices_symMergeCmpFunc_int.l3 kq x0_2 x14_1 x17_2 = some r) ∧ Aside0 (kq ≤ k1) ∧ Aside0 (Kd.R (Kd.int .i64) 3 w' w0.heap.size (fun k_ => (P0_ k_ ∨ w.heap.size ≤ k_)) u9000_ x0_2) ∧ Aside0 (Kept w w' (fun k_ => P0_ k_)) ∧ Aside0 (Below w0.heap.size w0 w'))
    case atStart => exact ⟨(l0), (a2), (rs_), H', ⟨Nat.le_refl _⟩, ⟨pe_ HO_0.out⟩, ⟨kp_⟩, ⟨bb_⟩⟩
    case round =>
     clear H'; (try clear c1); (try clear c2); (try clear p2); (try clear q2); (try clear hx2); (try clear c3); (try clear c4); (try clear c6); (try clear c6b0); (try clear c6b1); (try clear p6); (try clear c7); (try clear c7b0); (try clear c9); (try clear c9b0); (try clear c10); (try clear c10b0); (try clear c11); (try clear c11b0); (try clear c12); (try clear c12b0); (try clear c14); (try clear c14b0); (try clear c21); (try clear c21b0); (try clear p21); (try clear q21); (try clear hx21); (try clear p22); (try clear q22); (try clear hx22); (try clear c23); (try clear c23b0); (try clear c24); (try clear c24b0); (try clear c25); (try clear c25b0); (try clear c26); (try clear c26b0); (try clear p27); (try clear q27); (try clear hx27); (try clear hf27); (try clear p28); (try clear q28); (try clear hx28); (try clear hf28); (try clear c33b0); (try clear c33b1); (try clear c34b0); (try clear c35b0); (try clear c36b0); (try clear c37); (try clear c38b0); (try clear c39b0); (try clear c41b0); (try clear hx216_0); (try clear hx217_0); (try clear hx219_0); (try clear hx220_0); (try clear hx223_0); (try clear hx224_0); (try clear hx27_0); (try clear hx28_0); (try clear p2); (try clear p21); (try clear p216); (try clear p217); (try clear p219); (try clear p22); (try clear p220); (try clear p223); (try clear p224); (try clear p27); (try clear p28); (try clear p6); (try clear q2); (try clear q21); (try clear q216); (try clear q217); (try clear q219); (try clear q22); (try clear q220)
     (try clear q223); (try clear q224); (try clear q27); (try clear q28); obtain ⟨x0_2, x17_2, rfl, HA, HK2, HO_0, HK, HB⟩ := hrel
     cases gk with
     | zero => exact absurd HA.out (by simp [slices_symMergeCmpFunc_int.l3])
     | succ k2 =>
      have H := HA.out; clear HA; simp only [slices_symMergeCmpFunc_int.l3] at H
      by_cases c48 : x17_2 > x14_1
      ·
       rw [if_pos c48] at H; have c48b0 : decide (x14_1 < x17_2) = true := decide_eq_true c48; clear c48; obtain ⟨ji49, hji49⟩ : ∃ j_ : Int, (wrap64 (x17_2 - 1)) = j_ := ⟨_, rfl⟩; replace H : (if 0 ≤ (ji49) then (if (ji49) < (x0_2.length : Int) then (if 0 ≤ x17_2 then (if x17_2 < (x0_2.length : Int) then (slices_symMergeCmpFunc_int.l3 k2 ((x0_2.set (x17_2 : Int).toNat (rd x0_2 (ji49))).set ((ji49) : Int).toNat (rd x0_2 x17_2)) x14_1 ji49) else (none)) else (none)) else (none)) else (none)) = some r := rj_ hji49 H; have hji49w : (IntKind.i64.wrap (x17_2 - 1)) = ji49 := (i64_w _).trans hji49; (try rw [hji49] at hji8)
       (try rw [hji49] at hji8w)
       (try rw [hji49] at hji22)
       (try rw [hji49] at hji22w)
       (try rw [hji49] at hji37)
       (try rw [hji49] at hji37w)
       by_cases c50 : 0 ≤ (ji49)
       ·
        rw [if_pos c50] at H; have c50b0 : decide (0 ≤ (ji49)) = true := decide_eq_true c50; clear c50
        by_cases c51 : (ji49) < (x0_2.length : Int)
        ·
         rw [if_pos c51] at H; have c51b0 : decide ((ji49) < (x0_2.length : Int)) = true := decide_eq_true c51; clear c51
         by_cases c52 : 0 ≤ x17_2
         ·
          rw [if_pos c52] at H; have c52b0 : decide (0 ≤ x17_2) = true := decide_eq_true c52; clear c52
          by_cases c53 : x17_2 < (x0_2.length : Int)
          ·
           rw [if_pos c53] at H; have c53b0 : decide (x17_2 < (x0_2.length : Int)) = true := decide_eq_true c53; clear c53; obtain ⟨y228, hy228⟩ : ∃ y_ : List Int, y_ = (x0_2.set (x17_2 : Int).toNat (rd x0_2 (ji49))) := ⟨_, rfl⟩; replace H : (slices_symMergeCmpFunc_int.l3 k2 (y228.set ((ji49) : Int).toNat (rd x0_2 x17_2)) x14_1 ji49) = some r := rh_ hy228 H; have Ny228 := Aside0.mk hy228; clear hy228; obtain ⟨y229, hy229⟩ : ∃ y_ : List Int, y_ = (y228.set ((ji49) : Int).toNat (rd x0_2 x17_2)) := ⟨_, rfl⟩; replace H : (slices_symMergeCmpFunc_int.l3 k2 y229 x14_1 ji49) = some r := rh_ hy229 H; have Ny229 := Aside0.mk hy229; clear hy229; have H' := Aside0.mk H; clear H; try go_wp2
           have n_ := as3_ (Kd.R_drew HO_0.out) (Kept.drew HK.out) (below_drew1 HB.out); clear HO_0 HK HB; obtain ⟨HO_0, HK, HB⟩ := n_; obtain ⟨Ao57, co57, eo57⟩ := Kd.R_slice HO_0.out; (first | subst eo57 | (injection eo57 with f1_ f2_ f3_; have f4_ := f1_.symm; have f5_ := f3_.symm; clear f1_ f2_ f3_; subst f4_; subst f5_))
           have p226 : 0 ≤ ((ji49) : Int) := od_; have q226 : (ji49) < (x0_2.length : Int) := od_; obtain ⟨ad226, e226, hx226_0⟩ := Kd.at_int (Kd.R_reads' HO_0.out).2.2 (ji49) p226 q226; cases e226; replace p226 := eq_true p226; replace q226 := eq_true q226; have p227 : 0 ≤ (x17_2 : Int) := od_; have q227 : x17_2 < (x0_2.length : Int) := od_; obtain ⟨ad227, e227, hx227_0⟩ := Kd.at_int (Kd.R_reads' HO_0.out).2.2 x17_2 p227 q227; obtain rfl : ad226 = ad227 := (by injection e227)
           replace p227 := eq_true p227; replace q227 := eq_true q227; have p54 : 0 ≤ (x17_2 : Int) := od_; have q54 : (x17_2 : Int) < ((x0_2.length : Int) : Int) := od_; obtain ⟨go54, co54, eo54, gb54, gl54, cl54, HG54⟩ := Kd.R_form HO_0.out (by omega)
           (first | cases eo54 | (injection eo54 with ea_ en_ ec_; (first | subst ea_ | (injection ea_ with ea_; subst ea_)); subst ec_; clear en_))
           have GB54 := Aside0.mk gb54; have GG54 := Aside0.mk HG54; clear gb54 gl54 HG54; have HMgo54 := Aside0.mk (show (P0_ go54 ∨ w.heap.size ≤ go54) from (HO_0.out.1 _ rfl)); (first | simp only [add_plain] at hx226_0 | skip)
           (first | simp only [add_plain] at hx227_0 | skip)
           obtain ⟨hx54_0, hf54_0⟩ := Kd.R_celln 0 HO_0.out (x17_2 : Int) p54 q54; replace p54 := eq_true p54; replace q54 := eq_true q54; have HP58 := Kd.R_putn HO_0.out (x17_2 : Int) (rd x0_2 (ji49)); rw [← Ny228.out] at HP58; have HQ58 := Aside0.mk HP58; clear HP58; have p55 : 0 ≤ ((ji49) : Int) := od_; have q55 : ((ji49) : Int) < ((x0_2.length : Int) : Int) := od_; obtain ⟨hx55_0, hf55_0⟩ := Kd.R_celln 0 HQ58.out ((ji49) : Int) p55 q55; replace p55 := eq_true p55; replace q55 := eq_true q55; have HP59 := Kd.R_putn HQ58.out ((ji49) : Int) (rd x0_2 x17_2); rw [← Ny229.out] at HP59; have HQ59 := Aside0.mk HP59; clear HP59; refine start_ (n := 18) (S := fun w' => w'.cell? ⟨go54, ((ji49)).toNat, none⟩ = some (.int .i64 (rd x0_2 (ji49))) ∧ w'.cell? ⟨go54, (x17_2).toNat, none⟩ = some (.int .i64 (rd x0_2 x17_2))) (ds := [15, 17]) (ba_ 18 0) kr_ rfl rfl ⟨hx226_0, hx227_0⟩ (fun hHeld => ?_); refine with_tabW slices_symMergeCmpFunc_int.tab23 slices_symMergeCmpFunc_int.bits23 (fun HT_ HW_ => ?_)
           generalize wr.drew = w56 at HO_0 HK HB GG54 HQ58 HQ59 hf54_0 hf55_0 hx226_0 hx227_0 hx54_0 hx55_0 hHeld ⊢
           refine pu_ 0 113 HT_.out (ba_ 18 1) ?_; refine pu_ 1 114 HT_.out (ba_ 18 3) ?_; refine pu_ 2 115 HT_.out (ba_ 18 7) ?_; refine pu_ 3 116 HT_.out (ba_ 18 15) ?_; refine pu_ 4 117 HT_.out (ba_ 18 31) ?_; refine pu_ 5 118 HT_.out (ba_ 18 63) ?_; refine pu_ 6 119 HT_.out (ba_ 18 127) ?_; refine pu_ 7 120 HT_.out (ba_ 18 255) ?_; refine pu_ 8 121 HT_.out (ba_ 18 511) ?_; refine pu_ 10 123 HT_.out (ba_ 18 1535) ?_; refine pu_ 11 124 HT_.out (ba_ 18 3583) ?_; refine pu_ 12 125 HT_.out (ba_ 18 7679) ?_; refine ta_ 9 122 HT_.out HW_.out hHeld (ba_ 18 8191) ?_; refine ta_ 13 126 HT_.out HW_.out hHeld (ba_ 18 16383) ?_; refine pu_ 14 127 HT_.out (ba_ 18 32767) ?_; refine last_ (i := 15) (N := none) (ba_ 18 65535) rfl rfl (one_of HT_.out kr_) (by decide) (fun K hK => ?_)
           refine skip_ (w1 := ?_) (by rfl) rfl ?_ ?_
           rotate_left
           ·
            go_simp; rfl
           refine hK.out _ _ ?_
           clear hK K; refine pu_ 16 128 HT_.out (ba_ 18 131071) ?_; refine last_ (i := 17) (N := none) (ba_ 18 262143) rfl rfl (one_of HT_.out kr_) (by decide) (fun K hK => ?_)
           refine skip_ (w1 := ?_) (by rfl) rfl ?_ ?_
           rotate_left
           ·
            go_simp; rfl
           refine hK.out _ _ ?_
           clear hK K; refine done_ (done_of HT_.out kr_) ?_
           try go_wp2
           go_roundg k2
           case measure => have := HK1.out; have := HK2.out; omega
           case rel => exact ⟨(y229), (ji49), (by first | rfl | (simp; done) | (simp only [← hji49] <;> (first | rfl | simp)) | (simp [*]; done)), H', ⟨by have := HK1.out; have := HK2.out; omega⟩, ⟨pe_ HQ59.out⟩, ⟨by repeat (first | (with_reducible first | exact HK.out | apply Kept.alloc | apply Kept.drewN | apply Kept.drew | refine Kept.setCell ?_ HMgo54.out _ | refine Kept.setCell ?_ HMgo54.out _) | exact HK.out)⟩, ⟨by repeat (first | (with_reducible first | exact HB.out | apply below_alloc | apply pw_below_drewN | apply below_drew1 | refine below_set ?_ GB54.out | refine below_set ?_ GB54.out) | exact HB.out)⟩⟩
          ·
           rw [if_neg c53] at H; exact absurd H (by simp)
         ·
          rw [if_neg c52] at H; exact absurd H (by simp)
        ·
         rw [if_neg c51] at H; exact absurd H (by simp)
       ·
        rw [if_neg c50] at H; exact absurd H (by simp)
      ·
       rw [if_neg c48] at H; have c48b0 : decide (x14_1 < x17_2) = false := decide_eq_false c48; clear c48; obtain rfl := Option.some.inj H; go_wp2; first | go_end0 | ((try simp only [Exit.inBlock, Exit.then]); refine bodyPost_ret (results_none rfl _ _ _) rfl ?_)
       exact ⟨er_, pe_ HO_0.out, bb_, kp_⟩
set_option maxHeartbeats 8000000 in
set_option maxRecDepth 100000 in
theorem slices_symMergeCmpFunc_int.callsC (k : Nat) (ih : ∀ m, m < k → ∀ (P0_ : Nat → Prop) (u9000_ : Value) (l0 : List Int) (a1 : Int) (a2 : Int) (a3 : Int) (a4 : X1.Cmp) (fc : FuncId) (caps : Array Value) (r : List Int) (w0 w : World) (hB : Below w0.heap.size w0 w) (ho0 : Kd.R (Kd.int .i64) 3 w w0.heap.size P0_ u9000_ l0) (hF_ : X1.FnC Try.prog fc caps w P0_ a4) (h : slices_symMergeCmpFunc_int.f m l0 a1 a2 a3 a4 = some r),
 Calls Try.prog 126 #[u9000_, .int .i64 a1, .int .i64 a2, .int .i64 a3, (.func (.func fc) #[] caps)] w fun e w' => e = .returned (.tuple #[]) ∧ Kd.R (Kd.int .i64) 3 w' w0.heap.size (fun k_ => (P0_ k_ ∨ w.heap.size ≤ k_)) u9000_ r ∧ Below w0.heap.size w0 w' ∧ Kept w w' (fun k_ => P0_ k_)) : ∀ (P0_ : Nat → Prop) (u9000_ : Value) (l0 : List Int) (a1 : Int) (a2 : Int) (a3 : Int) (a4 : X1.Cmp) (fc : FuncId) (caps : Array Value) (r : List Int) (w0 w : World) (hB : Below w0.heap.size w0 w) (ho0 : Kd.R (Kd.int .i64) 3 w w0.heap.size P0_ u9000_ l0) (hF_ : X1.FnC Try.prog fc caps w P0_ a4) (h : slices_symMergeCmpFunc_int.f k l0 a1 a2 a3 a4 = some r), ¬ (wrap64 (a2 - a1)) = 1 →  ¬ (wrap64 (a3 - a2)) = 1 →
 Calls Try.prog 126 #[u9000_, .int .i64 a1, .int .i64 a2, .int .i64 a3, (.func (.func fc) #[] caps)] w fun e w' => e = .returned (.tuple #[]) ∧ Kd.R (Kd.int .i64) 3 w' w0.heap.size (fun k_ => (P0_ k_ ∨ w.heap.size ≤ k_)) u9000_ r ∧ Below w0.heap.size w0 w' ∧ Kept w w' (fun k_ => P0_ k_) := by
 intro P0_ u9000_ l0 a1 a2 a3 a4 fc caps r w0 w hB ho0 hF_ h c6 c33
 have HF0_ := Aside0.mk hF_; obtain ⟨fn_, hfn_, hnm_, hbd_, hcl_⟩ := hF_; have HFn_ := Aside0.mk hfn_; have HNm_ := Aside0.mk hnm_; have HBd_ := Aside0.mk hbd_; have HCl_ := Aside0.mk hcl_; clear hfn_ hnm_ hbd_ hcl_
 cases k with
 | zero => exact absurd h (by simp [slices_symMergeCmpFunc_int.f])
 | succ k =>
 simp only [slices_symMergeCmpFunc_int.f] at h; have HO0 := Aside0.mk (show Kd.R (Kd.int .i64) 3 w w0.heap.size (fun k_ => (P0_ k_ ∨ w.heap.size ≤ k_)) u9000_ l0 from Kd.R_mono ho0 (fun k_ hk => (.inl hk))); have HK := Aside0.mk (Kept.refl w (fun k_ => P0_ k_)); have HW0 := Aside0.mk hB.size; have HB := Aside0.mk hB; clear hB; have H : (if (wrap64 (a2 - a1)) = 1 then (slices_symMergeCmpFunc_int.l0 k l0 a1 a4 a2 a3) else (if (wrap64 (a3 - a2)) = 1 then (slices_symMergeCmpFunc_int.l2 k l0 a2 a4 a1 a2) else (if a2 > (wrap64 ((IntKind.u64.wrap (wrap64 (a1 + a3))) / 2)) then (slices_symMergeCmpFunc_int.j4 k l0 a1 a2 a3 a4 (wrap64 ((IntKind.u64.wrap (wrap64 (a1 + a3))) / 2)) (wrap64 ((wrap64 ((IntKind.u64.wrap (wrap64 (a1 + a3))) / 2)) + a2)) (wrap64 ((wrap64 ((wrap64 ((IntKind.u64.wrap (wrap64 (a1 + a3))) / 2)) + a2)) - a3)) (wrap64 ((IntKind.u64.wrap (wrap64 (a1 + a3))) / 2))) else (slices_symMergeCmpFunc_int.j4 k l0 a1 a2 a3 a4 (wrap64 ((IntKind.u64.wrap (wrap64 (a1 + a3))) / 2)) (wrap64 ((wrap64 ((IntKind.u64.wrap (wrap64 (a1 + a3))) / 2)) + a2)) a1 a2)))) = some r := h; clear h; rw [if_neg c6] at H; have c6b0 : ((wrap64 (a2 - a1)) == 1) = false := beq_eq_false_iff_ne.mpr c6; have c6b1 : ((wrap64 (a2 - a1)) != 1) = true := bne_iff_ne.mpr c6; rw [if_neg c33] at H; have c33b0 : ((wrap64 (a3 - a2)) == 1) = false := beq_eq_false_iff_ne.mpr c33; have c33b1 : ((wrap64 (a3 - a2)) != 1) = true := bne_iff_ne.mpr c33; have HC60 := Aside0.mk H; clear H; go_enter Try.func126, Try.ntmps126
 go_upto_if 140 with (fail)
 go_cut [20, 21] (fun v20 v21 wc => ∃ (kq : Nat) (x20_59 : Int) (x21_59 : Int), v20 = .int .i64 x20_59 ∧ v21 = .int .i64 x21_59 ∧ Aside0 (slices_symMergeCmpFunc_int.j4 kq l0 a1 a2 a3 a4 (wrap64 ((IntKind.u64.wrap (wrap64 (a1 + a3))) / 2)) (wrap64 ((wrap64 ((IntKind.u64.wrap (wrap64 (a1 + a3))) / 2)) + a2)) x20_59 x21_59 = some r) ∧ Aside0 (kq ≤ k) ∧ Aside0 (Kd.R (Kd.int .i64) 3 wc w0.heap.size (fun k_ => (P0_ k_ ∨ w.heap.size ≤ k_)) u9000_ l0) ∧ Aside0 (Kept w wc (fun k_ => P0_ k_)) ∧ Aside0 (Below w0.heap.size w0 wc))
 case first =>
  have H := HC60.out; clear HC60
  by_cases c61 : a2 > (wrap64 ((IntKind.u64.wrap (wrap64 (a1 + a3))) / 2))
  ·
   rw [if_pos c61] at H; have c61b0 : decide ((wrap64 ((IntKind.u64.wrap (wrap64 (a1 + a3))) / 2)) < a2) = true := decide_eq_true c61; clear c61; (first | rw [c61b0] | (simp only [i64_w, i32_w]; rw [c61b0]) | skip)
   have H' := Aside0.mk H; clear H; go_wp2; go_meet
   case rel => exact ⟨_, (wrap64 ((wrap64 ((wrap64 ((IntKind.u64.wrap (wrap64 (a1 + a3))) / 2)) + a2)) - a3)), (wrap64 ((IntKind.u64.wrap (wrap64 (a1 + a3))) / 2)), (rs_), (rs_), H', ⟨le_⟩, ⟨pe_ HO0.out⟩, ⟨kp_⟩, ⟨bb_⟩⟩
  ·
   rw [if_neg c61] at H; have c61b0 : decide ((wrap64 ((IntKind.u64.wrap (wrap64 (a1 + a3))) / 2)) < a2) = false := decide_eq_false c61; clear c61; (first | rw [c61b0] | (simp only [i64_w, i32_w]; rw [c61b0]) | skip)
   have H' := Aside0.mk H; clear H; go_wp2; go_meet
   case rel => exact ⟨_, (a1), (a2), (rs_), (rs_), H', ⟨le_⟩, ⟨pe_ HO0.out⟩, ⟨kp_⟩, ⟨bb_⟩⟩
 case rest =>
  clear HC60; try clear c1
  try clear c2
  try clear p2
  try clear q2
  try clear hx2
  try clear c3
  try clear c4
  try clear c5
  try clear p5
  try clear q5
  try clear hx5
  try clear hf5
  try clear c6
  try clear c6b0
  try clear c6b1
  try clear p6
  try clear c7
  try clear c7b0
  try clear c9
  try clear c9b0
  try clear c10
  try clear c10b0
  try clear c11
  try clear c11b0
  try clear c12
  try clear c12b0
  try clear c14
  try clear c14b0
  try clear c21
  try clear c21b0
  try clear p21
  try clear q21
  try clear hx21
  try clear p22
  try clear q22
  try clear hx22
  try clear c23
  try clear c23b0
  try clear c24
  try clear c24b0
  try clear c25
  try clear c25b0
  try clear c26
  try clear c26b0
  try clear p27
  try clear q27
  try clear hx27
  try clear hf27
  try clear p28
  try clear q28
  try clear hx28
  try clear hf28
  try clear c33
  try clear c33b0
  try clear c33b1
  try clear c34
  try clear c34b0
  try clear c35
  try clear c35b0
  try clear c36
  try clear c36b0
  try clear c37
  try clear c38
  try clear c38b0
  try clear c39
  try clear c39b0
  try clear c41
  try clear c41b0
  try clear c48
  try clear c48b0
  try clear c50
  try clear c50b0
  try clear c51
  try clear c51b0
  try clear c52
  try clear c52b0
  try clear c53
  try clear c53b0
  try clear p54
  try clear q54
  try clear hx54
  try clear hf54
  try clear p55
  try clear q55
  try clear hx55
  try clear hf55
  try clear c61b0
  try clear hx216_0
  try clear hx217_0
  try clear hx219_0
  try clear hx220_0
  try clear hx223_0
  try clear hx224_0
  try clear hx226_0
  try clear hx227_0
  try clear hx27_0
  try clear hx28_0
  try clear hx54_0
  try clear hx55_0
  try clear p2
  try clear p21
  try clear p216
  try clear p217
  try clear p219
  try clear p22
  try clear p220
  try clear p223
  try clear p224
  try clear p226
  try clear p227
  try clear p27
  try clear p28
  try clear p54
  try clear p55
  try clear p6
  try clear q2
  try clear q21
  try clear q216
  try clear q217
  try clear q219
  try clear q22
  try clear q220
  try clear q223
  try clear q224
  try clear q226
  try clear q227
  try clear q27
  try clear q28
  try clear q54
  try clear q55
  obtain ⟨kq, x20_59, x21_59, rfl, rfl, HA, HJ59, HO_0, HK, HB⟩ := hcut
  cases kq with
  | zero => exact absurd HA.out (by simp [slices_symMergeCmpFunc_int.j4])
  | succ kj59 =>
   have H := HA.out; clear HA; simp only [slices_symMergeCmpFunc_int.j4] at H; have H' := Aside0.mk H; clear H; go_wp2; go_loopg [20, 21] kj59 (fun kq v20 v21 w' => ∃ (x20_2 : Int) (x21_2 : Int), v20 = .int .i64 x20_2 ∧ v21 = .int .i64 x21_2 ∧ Aside0 (slices_symMergeCmpFunc_int.l4 kq l0 a1 a2 a3 a4 (wrap64 ((IntKind.u64.wrap (wrap64 (a1 + a3))) / 2)) (wrap64 ((wrap64 ((IntKind.u64.wrap (wrap64 (a1 + a3))) / 2)) + a2)) x20_2 x21_2 (wrap64 ((wrap64 ((wrap64 ((IntKind.u64.wrap (wrap64 (a1 + a3))) / 2)) + a2)) - 1)) = some r) ∧ Aside0 (kq ≤ kj59) ∧ Aside0 (Kd.R (Kd.int .i64) 3 w' w0.heap.size (fun k_ => (P0_ k_ ∨ w.heap.size ≤ k_)) u9000_ l0) ∧ Aside0 (Kept w w' (fun k_ => P0_ k_)) ∧ Aside0 (Below w0.heap.size w0 w'))
   case atStart => exact ⟨(x20_59), (x21_59), (rs_), (rs_), H', ⟨Nat.le_refl _⟩, ⟨pe_ HO_0.out⟩, ⟨kp_⟩, ⟨bb_⟩⟩
   case round =>
    clear H'; (try clear c1); (try clear c2); (try clear p2); (try clear q2); (try clear hx2); (try clear c3); (try clear c4); (try clear c5); (try clear p5); (try clear q5); (try clear hx5); (try clear hf5); (try clear c6); (try clear c6b0); (try clear c6b1); (try clear p6); (try clear c7); (try clear c7b0); (try clear c9); (try clear c9b0); (try clear c10); (try clear c10b0); (try clear c11); (try clear c11b0); (try clear c12); (try clear c12b0); (try clear c14); (try clear c14b0); (try clear c21); (try clear c21b0); (try clear p21); (try clear q21); (try clear hx21); (try clear p22); (try clear q22); (try clear hx22); (try clear c23); (try clear c23b0); (try clear c24); (try clear c24b0); (try clear c25); (try clear c25b0); (try clear c26); (try clear c26b0); (try clear p27); (try clear q27); (try clear hx27); (try clear hf27); (try clear p28); (try clear q28); (try clear hx28); (try clear hf28); (try clear c33); (try clear c33b0); (try clear c33b1); (try clear c34); (try clear c34b0); (try clear c35); (try clear c35b0); (try clear c36); (try clear c36b0); (try clear c37); (try clear c38); (try clear c38b0); (try clear c39); (try clear c39b0); (try clear c41); (try clear c41b0); (try clear c48); (try clear c48b0); (try clear c50); (try clear c50b0); (try clear c51); (try clear c51b0); (try clear c52); (try clear c52b0); (try clear c53); (try clear c53b0); (try clear p54); (try clear q54); (try clear hx54); (try clear hf54); (try clear p55); (try clear q55); (try clear hx55)
    (try clear hf55); (try clear c61b0); (try clear hx216_0); (try clear hx217_0); (try clear hx219_0); (try clear hx220_0); (try clear hx223_0); (try clear hx224_0); (try clear hx226_0); (try clear hx227_0); (try clear hx27_0); (try clear hx28_0); (try clear hx54_0); (try clear hx55_0); (try clear p2); (try clear p21); (try clear p216); (try clear p217); (try clear p219); (try clear p22); (try clear p220); (try clear p223); (try clear p224); (try clear p226); (try clear p227); (try clear p27); (try clear p28); (try clear p5); (try clear p54); (try clear p55); (try clear p6); (try clear q2); (try clear q21); (try clear q216); (try clear q217); (try clear q219); (try clear q22); (try clear q220); (try clear q223); (try clear q224); (try clear q226); (try clear q227); (try clear q27); (try clear q28); (try clear q5); (try clear q54); (try clear q55); obtain ⟨x20_2, x21_2, rfl, rfl, HA, HK2, HO_0, HK, HB⟩ := hrel
    cases gk with
    | zero => exact absurd HA.out (by simp [slices_symMergeCmpFunc_int.l4])
    | succ k2 =>
     have H := HA.out; clear HA; simp only [slices_symMergeCmpFunc_int.l4] at H
     by_cases c62 : x20_2 < x21_2
     ·
      rw [if_pos c62] at H; have c62b0 : decide (x20_2 < x21_2) = true := decide_eq_true c62; clear c62; obtain ⟨ji63, hji63⟩ : ∃ j_ : Int, (wrap64 ((wrap64 ((wrap64 ((wrap64 ((IntKind.u64.wrap (wrap64 (a1 + a3))) / 2)) + a2)) - 1)) - (wrap64 ((IntKind.u64.wrap (wrap64 (x20_2 + x21_2))) / 2)))) = j_ := ⟨_, rfl⟩; replace H : (if 0 ≤ (ji63) then (if (ji63) < (l0.length : Int) then (if 0 ≤ (wrap64 ((IntKind.u64.wrap (wrap64 (x20_2 + x21_2))) / 2)) then (if (wrap64 ((IntKind.u64.wrap (wrap64 (x20_2 + x21_2))) / 2)) < (l0.length : Int) then ((a4 (rd l0 (ji63)) (rd l0 (wrap64 ((IntKind.u64.wrap (wrap64 (x20_2 + x21_2))) / 2)))).bind fun t232 => (if t232 < 0 then (slices_symMergeCmpFunc_int.l4 k2 l0 a1 a2 a3 a4 (wrap64 ((IntKind.u64.wrap (wrap64 (a1 + a3))) / 2)) (wrap64 ((wrap64 ((IntKind.u64.wrap (wrap64 (a1 + a3))) / 2)) + a2)) x20_2 (wrap64 ((IntKind.u64.wrap (wrap64 (x20_2 + x21_2))) / 2)) (wrap64 ((wrap64 ((wrap64 ((IntKind.u64.wrap (wrap64 (a1 + a3))) / 2)) + a2)) - 1))) else (slices_symMergeCmpFunc_int.l4 k2 l0 a1 a2 a3 a4 (wrap64 ((IntKind.u64.wrap (wrap64 (a1 + a3))) / 2)) (wrap64 ((wrap64 ((IntKind.u64.wrap (wrap64 (a1 + a3))) / 2)) + a2)) (wrap64 ((wrap64 ((IntKind.u64.wrap (wrap64 (x20_2 + x21_2))) / 2)) + 1)) x21_2 (wrap64 ((wrap64 ((wrap64 ((IntKind.u64.wrap (wrap64 (a1 + a3))) / 2)) + a2)) - 1))))) else (none)) else (none)) else (none)) else (none)) = some r := rj_ hji63 H
      have hji63w : (IntKind.i64.wrap ((wrap64 ((wrap64 ((wrap64 ((IntKind.u64.wrap (wrap64 (a1 + a3))) / 2)) + a2)) - 1)) - (wrap64 ((IntKind.u64.wrap (wrap64 (x20_2 + x21_2))) / 2)))) = ji63 := (i64_w _).trans hji63; (try rw [hji63] at hji22)
      (try rw [hji63] at hji22w)
      (try rw [hji63] at hji37)
      (try rw [hji63] at hji37w)
      (try rw [hji63] at hji49)
      (try rw [hji63] at hji49w)
      by_cases c64 : 0 ≤ (ji63)
      ·
       rw [if_pos c64] at H; have c64b0 : decide (0 ≤ (ji63)) = true := decide_eq_true c64; clear c64
       by_cases c65 : (ji63) < (l0.length : Int)
       ·
        rw [if_pos c65] at H; have c65b0 : decide ((ji63) < (l0.length : Int)) = true := decide_eq_true c65; clear c65; obtain ⟨ji66, hji66⟩ : ∃ j_ : Int, (wrap64 ((IntKind.u64.wrap (wrap64 (x20_2 + x21_2))) / 2)) = j_ := ⟨_, rfl⟩; replace H : (if 0 ≤ (ji66) then (if (ji66) < (l0.length : Int) then ((a4 (rd l0 (ji63)) (rd l0 (ji66))).bind fun t232 => (if t232 < 0 then (slices_symMergeCmpFunc_int.l4 k2 l0 a1 a2 a3 a4 (wrap64 ((IntKind.u64.wrap (wrap64 (a1 + a3))) / 2)) (wrap64 ((wrap64 ((IntKind.u64.wrap (wrap64 (a1 + a3))) / 2)) + a2)) x20_2 ji66 (wrap64 ((wrap64 ((wrap64 ((IntKind.u64.wrap (wrap64 (a1 + a3))) / 2)) + a2)) - 1))) else (slices_symMergeCmpFunc_int.l4 k2 l0 a1 a2 a3 a4 (wrap64 ((IntKind.u64.wrap (wrap64 (a1 + a3))) / 2)) (wrap64 ((wrap64 ((IntKind.u64.wrap (wrap64 (a1 + a3))) / 2)) + a2)) (wrap64 ((ji66) + 1)) x21_2 (wrap64 ((wrap64 ((wrap64 ((IntKind.u64.wrap (wrap64 (a1 + a3))) / 2)) + a2)) - 1))))) else (none)) else (none)) = some r := rj_ hji66 H; have hji66w : (IntKind.i64.wrap ((IntKind.u64.wrap (wrap64 (x20_2 + x21_2))) / 2)) = ji66 := (i64_w _).trans hji66; (try rw [hji66] at hji37)
        (try rw [hji66] at hji37w)
        (try rw [hji66] at hji49)
        (try rw [hji66] at hji49w)
        (try rw [hji66] at hji63)
        (try rw [hji66] at hji63w)
        by_cases c67 : 0 ≤ (ji66)
        ·
         rw [if_pos c67] at H; have c67b0 : decide (0 ≤ (ji66)) = true := decide_eq_true c67; clear c67
         by_cases c68 : (ji66) < (l0.length : Int)
         ·
          rw [if_pos c68] at H; have c68b0 : decide ((ji66) < (l0.length : Int)) = true := decide_eq_true c68; clear c68; replace H := Option.bind_eq_some_iff.mp H; obtain ⟨t232, A690, H⟩ := H; have A69 := Aside0.mk A690; clear A690
          by_cases c70 : t232 < 0
          ·
           as_aux_lemma =>
            rw [if_pos c70] at H; have c70b0 : decide (t232 < 0) = true := decide_eq_true c70; clear c70; have H' := Aside0.mk H; clear H; try go_wp2
            have n_ := as3_ (Kd.R_drew HO_0.out) (Kept.drew HK.out) (below_drew1 HB.out); clear HO_0 HK HB; obtain ⟨HO_0, HK, HB⟩ := n_; obtain ⟨Ao72, co72, eo72⟩ := Kd.R_slice HO_0.out; (first | subst eo72 | (injection eo72 with f1_ f2_ f3_; have f4_ := f1_.symm; have f5_ := f3_.symm; clear f1_ f2_ f3_; subst f4_; subst f5_))
            have p230 : 0 ≤ ((ji63) : Int) := od_; have q230 : (ji63) < (l0.length : Int) := od_; obtain ⟨ad230, e230, hx230_0⟩ := Kd.at_int (Kd.R_reads' HO_0.out).2.2 (ji63) p230 q230; cases e230; replace p230 := eq_true p230; replace q230 := eq_true q230; have p231 : 0 ≤ ((ji66) : Int) := od_; have q231 : (ji66) < (l0.length : Int) := od_; obtain ⟨ad231, e231, hx231_0⟩ := Kd.at_int (Kd.R_reads' HO_0.out).2.2 (ji66) p231 q231; obtain rfl : ad230 = ad231 := (by injection e231)
            replace p231 := eq_true p231; replace q231 := eq_true q231; refine start_ (n := 14) (S := fun w' => w'.cell? (ad230.add ((ji63)).toNat) = some (.int .i64 (rd l0 (ji63))) ∧ w'.cell? (ad230.add ((ji66)).toNat) = some (.int .i64 (rd l0 (ji66)))) (ds := []) (ba_ 14 0) kr_ rfl rfl ⟨hx230_0, hx231_0⟩ (fun hHeld => ?_); refine with_tabW slices_symMergeCmpFunc_int.tab35 slices_symMergeCmpFunc_int.bits35 (fun HT_ HW_ => ?_)
            generalize wr.drew = w71 at HO_0 HK HB hx230_0 hx231_0 hHeld ⊢
            refine pu_ 0 158 HT_.out (ba_ 14 1) ?_; refine pu_ 1 159 HT_.out (ba_ 14 3) ?_; refine pu_ 2 160 HT_.out (ba_ 14 7) ?_; refine pu_ 3 161 HT_.out (ba_ 14 15) ?_; refine pu_ 4 162 HT_.out (ba_ 14 31) ?_; refine pu_ 5 163 HT_.out (ba_ 14 63) ?_; refine pu_ 7 165 HT_.out (ba_ 14 191) ?_; refine pu_ 8 166 HT_.out (ba_ 14 447) ?_; refine pu_ 9 167 HT_.out (ba_ 14 959) ?_; refine ta_ 6 164 HT_.out HW_.out hHeld (ba_ 14 1023) ?_; refine ta_ 10 168 HT_.out HW_.out hHeld (ba_ 14 2047) ?_; refine one_ (i := 11) (N := some 169) (ba_ 14 4095) rfl rfl (one_of HT_.out kr_) (by decide) (fun K hK => ?_)
            refine X1.goesH_ caps HFn_.out HNm_.out HBd_.out #[.int .i64 (rd l0 (ji63)), .int .i64 (rd l0 (ji66))] (by rfl) rfl rfl rfl (by (try simp only [List.map_toArray, List.map_cons, List.map_nil]); first | done | (simp only [hji63, hji66]; rfl) | rfl | (simp only [List.length_drop, List.length_take]; rfl)) ?_
            refine (HCl_.out (rd l0 (ji63)) (rd l0 (ji66)) t232 _ (kp_) A69.out).mono ?_
            rintro e w73 ⟨rfl, hb⟩; have HS0_ := (hb.cell (World.block_lt_of_cell? _ _ (hHeld.1))).trans (hHeld.1); have HS1_ := (hb.cell (World.block_lt_of_cell? _ _ (hHeld.2))).trans (hHeld.2); refine ⟨_, rfl, ?_⟩
            have n_ := as3_ (Kd.R_below (pe_ HO_0.out) hb) (Kept.below (S := (fun k_ => P0_ k_)) (kp_) hb) (below_step (bb_) hb); clear HO_0 HK HB; obtain ⟨HO_0, HK, HB⟩ := n_
            
            
            
            
            refine hK.out _ _ ⟨HS0_, HS1_⟩ (fun hHeld => ?_)
            clear hK K; refine norm_ (a' := ?_) ?_ ?_
            rotate_left
            ·
             show Act.put _ (some 169) _ = _
             exact sp_
            refine pu_ 12 170 HT_.out (ba_ 14 8191) ?_; refine pu_ 13 171 HT_.out (ba_ 14 16383) ?_; refine done_ (done_of HT_.out kr_) ?_
            try go_wp2
            go_roundg k2
            case measure => have := HJ59.out; have := HK2.out; omega
            case rel => exact ⟨(x20_2), (ji66), (rs_), (by first | rfl | (simp; done) | (simp only [← hji66] <;> (first | rfl | simp)) | (simp [*]; done)), H', ⟨by have := HJ59.out; have := HK2.out; omega⟩, ⟨pe_ HO_0.out⟩, ⟨kp_⟩, ⟨bb_⟩⟩
          ·
           as_aux_lemma =>
            rw [if_neg c70] at H; have c70b0 : decide (t232 < 0) = false := decide_eq_false c70; clear c70; have H' := Aside0.mk H; clear H; try go_wp2
            have n_ := as3_ (Kd.R_drew HO_0.out) (Kept.drew HK.out) (below_drew1 HB.out); clear HO_0 HK HB; obtain ⟨HO_0, HK, HB⟩ := n_; obtain ⟨Ao75, co75, eo75⟩ := Kd.R_slice HO_0.out; (first | subst eo75 | (injection eo75 with f1_ f2_ f3_; have f4_ := f1_.symm; have f5_ := f3_.symm; clear f1_ f2_ f3_; subst f4_; subst f5_))
            have p230 : 0 ≤ ((ji63) : Int) := od_; have q230 : (ji63) < (l0.length : Int) := od_; obtain ⟨ad230, e230, hx230_0⟩ := Kd.at_int (Kd.R_reads' HO_0.out).2.2 (ji63) p230 q230; cases e230; replace p230 := eq_true p230; replace q230 := eq_true q230; have p231 : 0 ≤ ((ji66) : Int) := od_; have q231 : (ji66) < (l0.length : Int) := od_; obtain ⟨ad231, e231, hx231_0⟩ := Kd.at_int (Kd.R_reads' HO_0.out).2.2 (ji66) p231 q231; obtain rfl : ad230 = ad231 := (by injection e231)
            replace p231 := eq_true p231; replace q231 := eq_true q231; refine start_ (n := 14) (S := fun w' => w'.cell? (ad230.add ((ji63)).toNat) = some (.int .i64 (rd l0 (ji63))) ∧ w'.cell? (ad230.add ((ji66)).toNat) = some (.int .i64 (rd l0 (ji66)))) (ds := []) (ba_ 14 0) kr_ rfl rfl ⟨hx230_0, hx231_0⟩ (fun hHeld => ?_); refine with_tabW slices_symMergeCmpFunc_int.tab35 slices_symMergeCmpFunc_int.bits35 (fun HT_ HW_ => ?_)
            generalize wr.drew = w74 at HO_0 HK HB hx230_0 hx231_0 hHeld ⊢
            refine pu_ 0 158 HT_.out (ba_ 14 1) ?_; refine pu_ 1 159 HT_.out (ba_ 14 3) ?_; refine pu_ 2 160 HT_.out (ba_ 14 7) ?_; refine pu_ 3 161 HT_.out (ba_ 14 15) ?_; refine pu_ 4 162 HT_.out (ba_ 14 31) ?_; refine pu_ 5 163 HT_.out (ba_ 14 63) ?_; refine pu_ 7 165 HT_.out (ba_ 14 191) ?_; refine pu_ 8 166 HT_.out (ba_ 14 447) ?_; refine pu_ 9 167 HT_.out (ba_ 14 959) ?_; refine ta_ 6 164 HT_.out HW_.out hHeld (ba_ 14 1023) ?_; refine ta_ 10 168 HT_.out HW_.out hHeld (ba_ 14 2047) ?_; refine one_ (i := 11) (N := some 169) (ba_ 14 4095) rfl rfl (one_of HT_.out kr_) (by decide) (fun K hK => ?_)
            refine X1.goesH_ caps HFn_.out HNm_.out HBd_.out #[.int .i64 (rd l0 (ji63)), .int .i64 (rd l0 (ji66))] (by rfl) rfl rfl rfl (by (try simp only [List.map_toArray, List.map_cons, List.map_nil]); first | done | (simp only [hji63, hji66]; rfl) | rfl | (simp only [List.length_drop, List.length_take]; rfl)) ?_
            refine (HCl_.out (rd l0 (ji63)) (rd l0 (ji66)) t232 _ (kp_) A69.out).mono ?_
            rintro e w76 ⟨rfl, hb⟩; have HS0_ := (hb.cell (World.block_lt_of_cell? _ _ (hHeld.1))).trans (hHeld.1); have HS1_ := (hb.cell (World.block_lt_of_cell? _ _ (hHeld.2))).trans (hHeld.2); refine ⟨_, rfl, ?_⟩
            have n_ := as3_ (Kd.R_below (pe_ HO_0.out) hb) (Kept.below (S := (fun k_ => P0_ k_)) (kp_) hb) (below_step (bb_) hb); clear HO_0 HK HB; obtain ⟨HO_0, HK, HB⟩ := n_
            
            
            
            
            refine hK.out _ _ ⟨HS0_, HS1_⟩ (fun hHeld => ?_)
            clear hK K; refine norm_ (a' := ?_) ?_ ?_
            rotate_left
            ·
             show Act.put _ (some 169) _ = _
             exact sp_
            refine pu_ 12 170 HT_.out (ba_ 14 8191) ?_; refine pu_ 13 171 HT_.out (ba_ 14 16383) ?_; refine done_ (done_of HT_.out kr_) ?_
            try go_wp2
            go_roundg k2
            case measure => have := HJ59.out; have := HK2.out; omega
            case rel => exact ⟨(wrap64 ((ji66) + 1)), (x21_2), (by first | rfl | (simp; done) | (simp only [← hji66] <;> (first | rfl | simp)) | (simp [*]; done)), (rs_), H', ⟨by have := HJ59.out; have := HK2.out; omega⟩, ⟨pe_ HO_0.out⟩, ⟨kp_⟩, ⟨bb_⟩⟩
         ·
          rw [if_neg c68] at H; exact absurd H (by simp)
        ·
         rw [if_neg c67] at H; exact absurd H (by simp)
       ·
        rw [if_neg c65] at H; exact absurd H (by simp)
      ·
       rw [if_neg c64] at H; exact absurd H (by simp)
     ·
      rw [if_neg c62] at H; have c62b0 : decide (x20_2 < x21_2) = false := decide_eq_false c62; clear c62; have HC77 := Aside0.mk H; clear H; go_upto_region 39 with (fail)
      go_cut [185] (fun v185 wc => ∃ (kq : Nat) (x185_76 : Bool), v185 = .bool x185_76 ∧ Aside0 (slices_symMergeCmpFunc_int.j6 kq l0 a1 a2 a3 a4 (wrap64 ((IntKind.u64.wrap (wrap64 (a1 + a3))) / 2)) x20_2 (wrap64 ((wrap64 ((wrap64 ((IntKind.u64.wrap (wrap64 (a1 + a3))) / 2)) + a2)) - x20_2)) x185_76 = some r) ∧ Aside0 (kq ≤ k2) ∧ Aside0 (Kd.R (Kd.int .i64) 3 wc w0.heap.size (fun k_ => (P0_ k_ ∨ w.heap.size ≤ k_)) u9000_ l0) ∧ Aside0 (Kept w wc (fun k_ => P0_ k_)) ∧ Aside0 (Below w0.heap.size w0 wc))
      case first =>
       have H := HC77.out; clear HC77
       by_cases c78 : x20_2 < a2
       ·
        rw [if_pos c78] at H; have c78b0 : decide (x20_2 < a2) = true := decide_eq_true c78; clear c78; (first | rw [c78b0] | (simp only [i64_w, i32_w]; rw [c78b0]) | skip)
        have H' := Aside0.mk H; clear H; go_wp2; go_meet
        case rel => exact ⟨_, (decide (a2 < (wrap64 ((wrap64 ((wrap64 ((IntKind.u64.wrap (wrap64 (a1 + a3))) / 2)) + a2)) - x20_2)))), (rs_), H', ⟨by have := HJ59.out; have := HK2.out; first | omega | exact Nat.le_refl _⟩, ⟨pe_ HO_0.out⟩, ⟨kp_⟩, ⟨bb_⟩⟩
       ·
        rw [if_neg c78] at H; have c78b0 : decide (x20_2 < a2) = false := decide_eq_false c78; clear c78; (first | rw [c78b0] | (simp only [i64_w, i32_w]; rw [c78b0]) | skip)
        have H' := Aside0.mk H; clear H; go_wp2; go_meet
        case rel => exact ⟨_, (false), (rs_), H', ⟨by have := HJ59.out; have := HK2.out; first | omega | exact Nat.le_refl _⟩, ⟨pe_ HO_0.out⟩, ⟨kp_⟩, ⟨bb_⟩⟩
      case rest =>
       clear HC77; (try clear c1); (try clear c2); (try clear p2); (try clear q2); (try clear hx2); (try clear c3); (try clear c4); (try clear c5); (try clear p5); (try clear q5); (try clear hx5); (try clear hf5); (try clear c6); (try clear c6b0); (try clear c6b1); (try clear p6); (try clear c7); (try clear c7b0); (try clear c9); (try clear c9b0); (try clear c10); (try clear c10b0); (try clear c11); (try clear c11b0); (try clear c12); (try clear c12b0); (try clear c14); (try clear c14b0); (try clear c21); (try clear c21b0); (try clear p21); (try clear q21); (try clear hx21); (try clear p22); (try clear q22); (try clear hx22); (try clear c23); (try clear c23b0); (try clear p23); (try clear q23); (try clear hx23); (try clear c24); (try clear c24b0); (try clear c25); (try clear c25b0); (try clear c26); (try clear c26b0); (try clear p27); (try clear q27); (try clear hx27); (try clear hf27); (try clear p28); (try clear q28); (try clear hx28); (try clear hf28); (try clear c33); (try clear c33b0); (try clear c33b1); (try clear c34); (try clear c34b0); (try clear c35); (try clear c35b0); (try clear c36); (try clear c36b0); (try clear c37); (try clear c38); (try clear c38b0); (try clear c39); (try clear c39b0); (try clear c41); (try clear c41b0); (try clear c48); (try clear c48b0); (try clear c50); (try clear c50b0); (try clear c51); (try clear c51b0); (try clear c52); (try clear c52b0); (try clear c53); (try clear c53b0); (try clear p54); (try clear q54); (try clear hx54)
       (try clear hf54); (try clear p55); (try clear q55); (try clear hx55); (try clear hf55); (try clear c61b0); (try clear c62b0); (try clear c64b0); (try clear p64); (try clear c65b0); (try clear c67b0); (try clear c68b0); (try clear c70b0); (try clear c78b0); (try clear hx216_0); (try clear hx217_0); (try clear hx219_0); (try clear hx220_0); (try clear hx223_0); (try clear hx224_0); (try clear hx226_0); (try clear hx227_0); (try clear hx230_0); (try clear hx231_0); (try clear hx27_0); (try clear hx28_0); (try clear hx54_0); (try clear hx55_0); (try clear p2); (try clear p21); (try clear p216); (try clear p217); (try clear p219); (try clear p22); (try clear p220); (try clear p223); (try clear p224); (try clear p226); (try clear p227); (try clear p230); (try clear p231); (try clear p27); (try clear p28); (try clear p5); (try clear p54); (try clear p55); (try clear p6); (try clear q2); (try clear q21); (try clear q216); (try clear q217); (try clear q219); (try clear q22); (try clear q220); (try clear q223); (try clear q224); (try clear q226); (try clear q227); (try clear q230); (try clear q231); (try clear q27); (try clear q28); (try clear q5); (try clear q54); (try clear q55); obtain ⟨kq, x185_76, rfl, HA, HJ76, HO_0, HK, HB⟩ := hcut
       cases kq with
       | zero => exact absurd HA.out (by simp [slices_symMergeCmpFunc_int.j6])
       | succ kj76 =>
        have H := HA.out; clear HA; simp only [slices_symMergeCmpFunc_int.j6] at H; have HC79 := Aside0.mk H; clear H; go_upto_if 185 with (fail)
        go_cut [] (fun wc => ∃ (kq : Nat) (x0_78 : List Int), Aside0 (slices_symMergeCmpFunc_int.j7 kq x0_78 a1 a3 a4 (wrap64 ((IntKind.u64.wrap (wrap64 (a1 + a3))) / 2)) x20_2 (wrap64 ((wrap64 ((wrap64 ((IntKind.u64.wrap (wrap64 (a1 + a3))) / 2)) + a2)) - x20_2)) = some r) ∧ Aside0 (kq ≤ kj76) ∧ Aside0 (Kd.R (Kd.int .i64) 3 wc w0.heap.size (fun k_ => (P0_ k_ ∨ w.heap.size ≤ k_)) u9000_ x0_78) ∧ Aside0 (Kept w wc (fun k_ => P0_ k_)) ∧ Aside0 (Below w0.heap.size w0 wc))
        case first =>
         have H := HC79.out; clear HC79
         by_cases c80 : x185_76 = true
         ·
          subst c80; replace H := Eq.trans (if_pos rfl).symm H; replace H := Option.bind_eq_some_iff.mp H; obtain ⟨t233, A810, H⟩ := H; have A81 := Aside0.mk A810; clear A810; have H' := Aside0.mk H; clear H; obtain ⟨Ao82, co82, eo82⟩ := Kd.R_slice HO_0.out; subst eo82; go_wp2_with (first | ((with_reducible refine gate_callee (f := 128) rfl ?_); refine goesL_ (some 191) rfl rfl Try.func128 kr_ rfl #[.slice Ao82 l0.length co82, .int .i64 x20_2, .int .i64 a2, .int .i64 (wrap64 ((wrap64 ((wrap64 ((IntKind.u64.wrap (wrap64 (a1 + a3))) / 2)) + a2)) - x20_2)), (.func (.func fc) #[] caps)] rfl (bc_) ?_; (with_reducible refine (slices_rotateCmpFunc_int.calls kj76 (fun k_ => some k_ = (.slice Ao82 l0.length co82 : Value).ownBlock) (.slice Ao82 l0.length co82) l0 x20_2 a2 (wrap64 ((wrap64 ((wrap64 ((IntKind.u64.wrap (wrap64 (a1 + a3))) / 2)) + a2)) - x20_2)) (.func (.func fc) #[] caps) t233 w0 _ ?side1 ?side2 A81.out).mono ?_); (case side1 => repeat (first | (with_reducible first | exact HB.out | apply below_alloc | apply pw_below_drewN | apply below_drew1) | exact HB.out)); (case side2 => exact Kd.R_tight rfl HO_0.out); rintro e w83 ⟨rfl, hy0, hb, hkp⟩; refine ⟨_, rfl, ?_⟩; have n_ := as3_ (Kd.R_reok rfl hy0 (fun k_ e_ => HO_0.out.1 k_ e_)) (Kept.then_ (S := (fun k_ => P0_ k_)) (kp_) hkp (fun k_ hs_ => (fun e_ => (HO_0.out.1 k_ e_.symm)) hs_)) (hb); clear HO_0 HK HB; obtain ⟨HO_0, HK, HB⟩ := n_; (try clear hb); (try clear hkp); (try clear hy0)))
          go_meet
          case rel => exact ⟨_, (t233), H', ⟨by have := HJ59.out; have := HK2.out; have := HJ76.out; first | omega | exact Nat.le_refl _⟩, ⟨pe_ HO_0.out⟩, ⟨kp_⟩, ⟨bb_⟩⟩
         ·
          replace c80 := Bool.eq_false_iff.mpr c80; subst c80; have H' := Aside0.mk (Eq.trans (if_neg nf_).symm H); clear H; go_wp2; go_meet
          case rel => exact ⟨_, (l0), H', ⟨by have := HJ59.out; have := HK2.out; have := HJ76.out; first | omega | exact Nat.le_refl _⟩, ⟨pe_ HO_0.out⟩, ⟨kp_⟩, ⟨bb_⟩⟩
        case rest =>
         clear HC79; (try clear c1); (try clear c2); (try clear p2); (try clear q2); (try clear hx2); (try clear c3); (try clear c4); (try clear c5); (try clear p5); (try clear q5); (try clear hx5); (try clear hf5); (try clear c6); (try clear c6b0); (try clear c6b1); (try clear p6); (try clear c7); (try clear c7b0); (try clear c8); (try clear c9); (try clear c9b0); (try clear c10); (try clear c10b0); (try clear c11); (try clear c11b0); (try clear c12); (try clear c12b0); (try clear c14); (try clear c14b0); (try clear c21); (try clear c21b0); (try clear p21); (try clear q21); (try clear hx21); (try clear p22); (try clear q22); (try clear hx22); (try clear c23); (try clear c23b0); (try clear p23); (try clear q23); (try clear hx23); (try clear c24); (try clear c24b0); (try clear c25); (try clear c25b0); (try clear c26); (try clear c26b0); (try clear p27); (try clear q27); (try clear hx27); (try clear hf27); (try clear p28); (try clear q28); (try clear hx28); (try clear hf28); (try clear c33); (try clear c33b0); (try clear c33b1); (try clear c34); (try clear c34b0); (try clear c35); (try clear c35b0); (try clear c36); (try clear c36b0); (try clear c37); (try clear c38); (try clear c38b0); (try clear c39); (try clear c39b0); (try clear c41); (try clear c41b0); (try clear c48); (try clear c48b0); (try clear c50); (try clear c50b0); (try clear c51); (try clear c51b0); (try clear c52); (try clear c52b0); (try clear c53); (try clear c53b0); (try clear p54); (try clear q54)
         (try clear hx54); (try clear hf54); (try clear p55); (try clear q55); (try clear hx55); (try clear hf55); (try clear c61b0); (try clear c62b0); (try clear c64b0); (try clear p64); (try clear c65b0); (try clear c67b0); (try clear c68b0); (try clear c70b0); (try clear c78b0); (try clear c80); (try clear hx216_0); (try clear hx217_0); (try clear hx219_0); (try clear hx220_0); (try clear hx223_0); (try clear hx224_0); (try clear hx226_0); (try clear hx227_0); (try clear hx230_0); (try clear hx231_0); (try clear hx27_0); (try clear hx28_0); (try clear hx54_0); (try clear hx55_0); (try clear p2); (try clear p21); (try clear p216); (try clear p217); (try clear p219); (try clear p22); (try clear p220); (try clear p223); (try clear p224); (try clear p226); (try clear p227); (try clear p23); (try clear p230); (try clear p231); (try clear p27); (try clear p28); (try clear p5); (try clear p54); (try clear p55); (try clear p6); (try clear p64); (try clear q2); (try clear q21); (try clear q216); (try clear q217); (try clear q219); (try clear q22); (try clear q220); (try clear q223); (try clear q224); (try clear q226); (try clear q227); (try clear q23); (try clear q230); (try clear q231); (try clear q27); (try clear q28); (try clear q5); (try clear q54); (try clear q55); obtain ⟨kq, x0_78, HA, HJ78, HO_0, HK, HB⟩ := hcut
         cases kq with
         | zero => exact absurd HA.out (by simp [slices_symMergeCmpFunc_int.j7])
         | succ kj78 =>
          have H := HA.out; clear HA; simp only [slices_symMergeCmpFunc_int.j7] at H; have HC84 := Aside0.mk H; clear H; go_upto_region 41 with (fail)
          go_cut [199] (fun v199 wc => ∃ (kq : Nat) (x199_83 : Bool), v199 = .bool x199_83 ∧ Aside0 (slices_symMergeCmpFunc_int.j8 kq x0_78 a1 a3 a4 (wrap64 ((IntKind.u64.wrap (wrap64 (a1 + a3))) / 2)) x20_2 (wrap64 ((wrap64 ((wrap64 ((IntKind.u64.wrap (wrap64 (a1 + a3))) / 2)) + a2)) - x20_2)) x199_83 = some r) ∧ Aside0 (kq ≤ kj78) ∧ Aside0 (Kd.R (Kd.int .i64) 3 wc w0.heap.size (fun k_ => (P0_ k_ ∨ w.heap.size ≤ k_)) u9000_ x0_78) ∧ Aside0 (Kept w wc (fun k_ => P0_ k_)) ∧ Aside0 (Below w0.heap.size w0 wc))
          case first =>
           have H := HC84.out; clear HC84
           by_cases c85 : a1 < x20_2
           ·
            rw [if_pos c85] at H; have c85b0 : decide (a1 < x20_2) = true := decide_eq_true c85; clear c85; (first | rw [c85b0] | (simp only [i64_w, i32_w]; rw [c85b0]) | skip)
            have H' := Aside0.mk H; clear H; go_wp2; go_meet
            case rel => exact ⟨_, (decide (x20_2 < (wrap64 ((IntKind.u64.wrap (wrap64 (a1 + a3))) / 2)))), (rs_), H', ⟨by have := HJ59.out; have := HK2.out; have := HJ76.out; have := HJ78.out; first | omega | exact Nat.le_refl _⟩, ⟨pe_ HO_0.out⟩, ⟨kp_⟩, ⟨bb_⟩⟩
           ·
            rw [if_neg c85] at H; have c85b0 : decide (a1 < x20_2) = false := decide_eq_false c85; clear c85; (first | rw [c85b0] | (simp only [i64_w, i32_w]; rw [c85b0]) | skip)
            have H' := Aside0.mk H; clear H; go_wp2; go_meet
            case rel => exact ⟨_, (false), (rs_), H', ⟨by have := HJ59.out; have := HK2.out; have := HJ76.out; have := HJ78.out; first | omega | exact Nat.le_refl _⟩, ⟨pe_ HO_0.out⟩, ⟨kp_⟩, ⟨bb_⟩⟩
          case rest =>
           clear HC84; (try clear c1); (try clear c2); (try clear p2); (try clear q2); (try clear hx2); (try clear c3); (try clear c4); (try clear c5); (try clear p5); (try clear q5); (try clear hx5); (try clear hf5); (try clear c6); (try clear c6b0); (try clear c6b1); (try clear p6); (try clear c7); (try clear c7b0); (try clear c8); (try clear c9); (try clear c9b0); (try clear c10); (try clear c10b0); (try clear c11); (try clear c11b0); (try clear c12); (try clear c12b0); (try clear c14); (try clear c14b0); (try clear c21); (try clear c21b0); (try clear p21); (try clear q21); (try clear hx21); (try clear p22); (try clear q22); (try clear hx22); (try clear c23); (try clear c23b0); (try clear p23); (try clear q23); (try clear hx23); (try clear c24); (try clear c24b0); (try clear c25); (try clear c25b0); (try clear c26); (try clear c26b0); (try clear p27); (try clear q27); (try clear hx27); (try clear hf27); (try clear p28); (try clear q28); (try clear hx28); (try clear hf28); (try clear c33); (try clear c33b0); (try clear c33b1); (try clear c34); (try clear c34b0); (try clear c35); (try clear c35b0); (try clear c36); (try clear c36b0); (try clear c37); (try clear c38); (try clear c38b0); (try clear c39); (try clear c39b0); (try clear c41); (try clear c41b0); (try clear c48); (try clear c48b0); (try clear c50); (try clear c50b0); (try clear c51); (try clear c51b0); (try clear c52); (try clear c52b0); (try clear c53); (try clear c53b0); (try clear p54); (try clear q54)
           (try clear hx54); (try clear hf54); (try clear p55); (try clear q55); (try clear hx55); (try clear hf55); (try clear c61b0); (try clear c62b0); (try clear c64b0); (try clear p64); (try clear c65b0); (try clear c67b0); (try clear c68b0); (try clear c70b0); (try clear c78b0); (try clear c80); (try clear c85b0); (try clear hx216_0); (try clear hx217_0); (try clear hx219_0); (try clear hx220_0); (try clear hx223_0); (try clear hx224_0); (try clear hx226_0); (try clear hx227_0); (try clear hx230_0); (try clear hx231_0); (try clear hx27_0); (try clear hx28_0); (try clear hx54_0); (try clear hx55_0); (try clear p2); (try clear p21); (try clear p216); (try clear p217); (try clear p219); (try clear p22); (try clear p220); (try clear p223); (try clear p224); (try clear p226); (try clear p227); (try clear p23); (try clear p230); (try clear p231); (try clear p27); (try clear p28); (try clear p5); (try clear p54); (try clear p55); (try clear p6); (try clear p64); (try clear q2); (try clear q21); (try clear q216); (try clear q217); (try clear q219); (try clear q22); (try clear q220); (try clear q223); (try clear q224); (try clear q226); (try clear q227); (try clear q23); (try clear q230); (try clear q231); (try clear q27); (try clear q28); (try clear q5); (try clear q54); (try clear q55); obtain ⟨kq, x199_83, rfl, HA, HJ83, HO_0, HK, HB⟩ := hcut
           cases kq with
           | zero => exact absurd HA.out (by simp [slices_symMergeCmpFunc_int.j8])
           | succ kj83 =>
            have H := HA.out; clear HA; simp only [slices_symMergeCmpFunc_int.j8] at H
            by_cases c86 : x199_83 = true
            ·
             subst c86; replace H := Eq.trans (if_pos rfl).symm H; replace H := Option.bind_eq_some_iff.mp H; obtain ⟨t234, A870, H⟩ := H; have A87 := Aside0.mk A870; clear A870
             by_cases c88 : (wrap64 ((IntKind.u64.wrap (wrap64 (a1 + a3))) / 2)) < (wrap64 ((wrap64 ((wrap64 ((IntKind.u64.wrap (wrap64 (a1 + a3))) / 2)) + a2)) - x20_2))
             ·
              rw [if_pos c88] at H; have c88b0 : decide ((wrap64 ((IntKind.u64.wrap (wrap64 (a1 + a3))) / 2)) < (wrap64 ((wrap64 ((wrap64 ((IntKind.u64.wrap (wrap64 (a1 + a3))) / 2)) + a2)) - x20_2))) = true := decide_eq_true c88; clear c88
              by_cases c89 : (wrap64 ((wrap64 ((wrap64 ((IntKind.u64.wrap (wrap64 (a1 + a3))) / 2)) + a2)) - x20_2)) < a3
              ·
               rw [if_pos c89] at H; have c89b0 : decide ((wrap64 ((wrap64 ((wrap64 ((IntKind.u64.wrap (wrap64 (a1 + a3))) / 2)) + a2)) - x20_2)) < a3) = true := decide_eq_true c89; clear c89; replace H := Option.bind_eq_some_iff.mp H; obtain ⟨t235, A900, H⟩ := H; have A90 := Aside0.mk A900; clear A900; obtain rfl := Option.some.inj H; obtain ⟨Ao91, co91, eo91⟩ := Kd.R_slice HO_0.out; subst eo91
               go_wp2_with (first | ((with_reducible refine gate_callee (f := 126) rfl ?_); refine goesL_ (some 205) rfl rfl Try.func126 kr_ rfl #[.slice Ao91 x0_78.length co91, .int .i64 a1, .int .i64 x20_2, .int .i64 (wrap64 ((IntKind.u64.wrap (wrap64 (a1 + a3))) / 2)), (.func (.func fc) #[] caps)] rfl (bc_) ?_; (with_reducible refine (ih kj83 (by have := HJ59.out; have := HK2.out; have := HJ76.out; have := HJ78.out; have := HJ83.out; omega) (fun k_ => some k_ = (.slice Ao91 x0_78.length co91 : Value).ownBlock) (.slice Ao91 x0_78.length co91) x0_78 a1 x20_2 (wrap64 ((IntKind.u64.wrap (wrap64 (a1 + a3))) / 2)) a4 fc caps t234 w0 _ ?side1 ?side2 (X1.FnC.mono HF0_.out (kp_) (X1.R_own1 HO_0.out)) A87.out).mono ?_); (case side1 => repeat (first | (with_reducible first | exact HB.out | apply below_alloc | apply pw_below_drewN | apply below_drew1) | exact HB.out)); (case side2 => exact Kd.R_tight rfl HO_0.out); rintro e w92 ⟨rfl, hy0, hb, hkp⟩; refine ⟨_, rfl, ?_⟩; have n_ := as3_ (Kd.R_reok rfl hy0 (fun k_ e_ => HO_0.out.1 k_ e_)) (Kept.then_ (S := (fun k_ => P0_ k_)) (kp_) hkp (fun k_ hs_ => (fun e_ => (HO_0.out.1 k_ e_.symm)) hs_)) (hb); clear HO_0 HK HB; obtain ⟨HO_0, HK, HB⟩ := n_; (try clear hb); (try clear hkp); (try clear hy0)) | ((with_reducible refine gate_callee (f := 126) rfl ?_); refine goesL_ (some 219) rfl rfl Try.func126 kr_ rfl #[.slice Ao91 x0_78.length co91, .int .i64 (wrap64 ((IntKind.u64.wrap (wrap64 (a1 + a3))) / 2)), .int .i64 (wrap64 ((wrap64 ((wrap64 ((IntKind.u64.wrap (wrap64 (a1 + a3))) / 2)) + a2)) - x20_2)), .int .i64 a3, (.func (.func fc) #[] caps)] rfl (bc_) ?_; (with_reducible refine (ih kj83 (by have := HJ59.out; have := HK2.out; have := HJ76.out; have := HJ78.out; have := HJ83.out; omega) (fun k_ => some k_ = (.slice Ao91 x0_78.length co91 : Value).ownBlock) (.slice Ao91 x0_78.length co91) t234 (wrap64 ((IntKind.u64.wrap (wrap64 (a1 + a3))) / 2)) (wrap64 ((wrap64 ((wrap64 ((IntKind.u64.wrap (wrap64 (a1 + a3))) / 2)) + a2)) - x20_2)) a3 a4 fc caps t235 w0 _ ?side1 ?side2 (X1.FnC.mono HF0_.out (kp_) (X1.R_own1 HO_0.out)) A90.out).mono ?_); (case side1 => repeat (first | (with_reducible first | exact HB.out | apply below_alloc | apply pw_below_drewN | apply below_drew1) | exact HB.out)); (case side2 => exact Kd.R_tight rfl HO_0.out); rintro e w93 ⟨rfl, hy0, hb, hkp⟩; refine ⟨_, rfl, ?_⟩; have n_ := as3_ (Kd.R_reok rfl hy0 (fun k_ e_ => HO_0.out.1 k_ e_)) (Kept.then_ (S := (fun k_ => P0_ k_)) (kp_) hkp (fun k_ hs_ => (fun e_ => (HO_0.out.1 k_ e_.symm)) hs_)) (hb); clear HO_0 HK HB; obtain ⟨HO_0, HK, HB⟩ := n_; (try clear hb); (try clear hkp); (try clear hy0)))
               first | go_end0 | ((try simp only [Exit.inBlock, Exit.then]); refine bodyPost_ret (results_none rfl _ _ _) rfl ?_)
               exact ⟨er_, pe_ HO_0.out, bb_, kp_⟩
              ·
               rw [if_neg c89] at H; have c89b0 : decide ((wrap64 ((wrap64 ((wrap64 ((IntKind.u64.wrap (wrap64 (a1 + a3))) / 2)) + a2)) - x20_2)) < a3) = false := decide_eq_false c89; clear c89; obtain rfl := Option.some.inj H; obtain ⟨Ao94, co94, eo94⟩ := Kd.R_slice HO_0.out; subst eo94
               go_wp2_with (first | ((with_reducible refine gate_callee (f := 126) rfl ?_); refine goesL_ (some 205) rfl rfl Try.func126 kr_ rfl #[.slice Ao94 x0_78.length co94, .int .i64 a1, .int .i64 x20_2, .int .i64 (wrap64 ((IntKind.u64.wrap (wrap64 (a1 + a3))) / 2)), (.func (.func fc) #[] caps)] rfl (bc_) ?_; (with_reducible refine (ih kj83 (by have := HJ59.out; have := HK2.out; have := HJ76.out; have := HJ78.out; have := HJ83.out; omega) (fun k_ => some k_ = (.slice Ao94 x0_78.length co94 : Value).ownBlock) (.slice Ao94 x0_78.length co94) x0_78 a1 x20_2 (wrap64 ((IntKind.u64.wrap (wrap64 (a1 + a3))) / 2)) a4 fc caps t234 w0 _ ?side1 ?side2 (X1.FnC.mono HF0_.out (kp_) (X1.R_own1 HO_0.out)) A87.out).mono ?_); (case side1 => repeat (first | (with_reducible first | exact HB.out | apply below_alloc | apply pw_below_drewN | apply below_drew1) | exact HB.out)); (case side2 => exact Kd.R_tight rfl HO_0.out); rintro e w95 ⟨rfl, hy0, hb, hkp⟩; refine ⟨_, rfl, ?_⟩; have n_ := as3_ (Kd.R_reok rfl hy0 (fun k_ e_ => HO_0.out.1 k_ e_)) (Kept.then_ (S := (fun k_ => P0_ k_)) (kp_) hkp (fun k_ hs_ => (fun e_ => (HO_0.out.1 k_ e_.symm)) hs_)) (hb); clear HO_0 HK HB; obtain ⟨HO_0, HK, HB⟩ := n_; (try clear hb); (try clear hkp); (try clear hy0)))
               first | go_end0 | ((try simp only [Exit.inBlock, Exit.then]); refine bodyPost_ret (results_none rfl _ _ _) rfl ?_)
               exact ⟨er_, pe_ HO_0.out, bb_, kp_⟩
             ·
              rw [if_neg c88] at H; have c88b0 : decide ((wrap64 ((IntKind.u64.wrap (wrap64 (a1 + a3))) / 2)) < (wrap64 ((wrap64 ((wrap64 ((IntKind.u64.wrap (wrap64 (a1 + a3))) / 2)) + a2)) - x20_2))) = false := decide_eq_false c88; clear c88; obtain rfl := Option.some.inj H; obtain ⟨Ao96, co96, eo96⟩ := Kd.R_slice HO_0.out; subst eo96
              go_wp2_with (first | ((with_reducible refine gate_callee (f := 126) rfl ?_); refine goesL_ (some 205) rfl rfl Try.func126 kr_ rfl #[.slice Ao96 x0_78.length co96, .int .i64 a1, .int .i64 x20_2, .int .i64 (wrap64 ((IntKind.u64.wrap (wrap64 (a1 + a3))) / 2)), (.func (.func fc) #[] caps)] rfl (bc_) ?_; (with_reducible refine (ih kj83 (by have := HJ59.out; have := HK2.out; have := HJ76.out; have := HJ78.out; have := HJ83.out; omega) (fun k_ => some k_ = (.slice Ao96 x0_78.length co96 : Value).ownBlock) (.slice Ao96 x0_78.length co96) x0_78 a1 x20_2 (wrap64 ((IntKind.u64.wrap (wrap64 (a1 + a3))) / 2)) a4 fc caps t234 w0 _ ?side1 ?side2 (X1.FnC.mono HF0_.out (kp_) (X1.R_own1 HO_0.out)) A87.out).mono ?_); (case side1 => repeat (first | (with_reducible first | exact HB.out | apply below_alloc | apply pw_below_drewN | apply below_drew1) | exact HB.out)); (case side2 => exact Kd.R_tight rfl HO_0.out); rintro e w97 ⟨rfl, hy0, hb, hkp⟩; refine ⟨_, rfl, ?_⟩; have n_ := as3_ (Kd.R_reok rfl hy0 (fun k_ e_ => HO_0.out.1 k_ e_)) (Kept.then_ (S := (fun k_ => P0_ k_)) (kp_) hkp (fun k_ hs_ => (fun e_ => (HO_0.out.1 k_ e_.symm)) hs_)) (hb); clear HO_0 HK HB; obtain ⟨HO_0, HK, HB⟩ := n_; (try clear hb); (try clear hkp); (try clear hy0)))
              first | go_end0 | ((try simp only [Exit.inBlock, Exit.then]); refine bodyPost_ret (results_none rfl _ _ _) rfl ?_)
              exact ⟨er_, pe_ HO_0.out, bb_, kp_⟩
            ·
             replace c86 := Bool.eq_false_iff.mpr c86; subst c86; replace H := Eq.trans (if_neg nf_).symm H
             by_cases c98 : (wrap64 ((IntKind.u64.wrap (wrap64 (a1 + a3))) / 2)) < (wrap64 ((wrap64 ((wrap64 ((IntKind.u64.wrap (wrap64 (a1 + a3))) / 2)) + a2)) - x20_2))
             ·
              rw [if_pos c98] at H; have c98b0 : decide ((wrap64 ((IntKind.u64.wrap (wrap64 (a1 + a3))) / 2)) < (wrap64 ((wrap64 ((wrap64 ((IntKind.u64.wrap (wrap64 (a1 + a3))) / 2)) + a2)) - x20_2))) = true := decide_eq_true c98; clear c98
              by_cases c99 : (wrap64 ((wrap64 ((wrap64 ((IntKind.u64.wrap (wrap64 (a1 + a3))) / 2)) + a2)) - x20_2)) < a3
              ·
               rw [if_pos c99] at H; have c99b0 : decide ((wrap64 ((wrap64 ((wrap64 ((IntKind.u64.wrap (wrap64 (a1 + a3))) / 2)) + a2)) - x20_2)) < a3) = true := decide_eq_true c99; clear c99; replace H := Option.bind_eq_some_iff.mp H; obtain ⟨t236, A1000, H⟩ := H; have A100 := Aside0.mk A1000; clear A1000; obtain rfl := Option.some.inj H; obtain ⟨Ao101, co101, eo101⟩ := Kd.R_slice HO_0.out; subst eo101
               go_wp2_with (first | ((with_reducible refine gate_callee (f := 126) rfl ?_); refine goesL_ (some 219) rfl rfl Try.func126 kr_ rfl #[.slice Ao101 x0_78.length co101, .int .i64 (wrap64 ((IntKind.u64.wrap (wrap64 (a1 + a3))) / 2)), .int .i64 (wrap64 ((wrap64 ((wrap64 ((IntKind.u64.wrap (wrap64 (a1 + a3))) / 2)) + a2)) - x20_2)), .int .i64 a3, (.func (.func fc) #[] caps)] rfl (bc_) ?_; (with_reducible refine (ih kj83 (by have := HJ59.out; have := HK2.out; have := HJ76.out; have := HJ78.out; have := HJ83.out; omega) (fun k_ => some k_ = (.slice Ao101 x0_78.length co101 : Value).ownBlock) (.slice Ao101 x0_78.length co101) x0_78 (wrap64 ((IntKind.u64.wrap (wrap64 (a1 + a3))) / 2)) (wrap64 ((wrap64 ((wrap64 ((IntKind.u64.wrap (wrap64 (a1 + a3))) / 2)) + a2)) - x20_2)) a3 a4 fc caps t236 w0 _ ?side1 ?side2 (X1.FnC.mono HF0_.out (kp_) (X1.R_own1 HO_0.out)) A100.out).mono ?_); (case side1 => repeat (first | (with_reducible first | exact HB.out | apply below_alloc | apply pw_below_drewN | apply below_drew1) | exact HB.out)); (case side2 => exact Kd.R_tight rfl HO_0.out); rintro e w102 ⟨rfl, hy0, hb, hkp⟩; refine ⟨_, rfl, ?_⟩; have n_ := as3_ (Kd.R_reok rfl hy0 (fun k_ e_ => HO_0.out.1 k_ e_)) (Kept.then_ (S := (fun k_ => P0_ k_)) (kp_) hkp (fun k_ hs_ => (fun e_ => (HO_0.out.1 k_ e_.symm)) hs_)) (hb); clear HO_0 HK HB; obtain ⟨HO_0, HK, HB⟩ := n_; (try clear hb); (try clear hkp); (try clear hy0)))
               first | go_end0 | ((try simp only [Exit.inBlock, Exit.then]); refine bodyPost_ret (results_none rfl _ _ _) rfl ?_)
               exact ⟨er_, pe_ HO_0.out, bb_, kp_⟩
              ·
               rw [if_neg c99] at H; have c99b0 : decide ((wrap64 ((wrap64 ((wrap64 ((IntKind.u64.wrap (wrap64 (a1 + a3))) / 2)) + a2)) - x20_2)) < a3) = false := decide_eq_false c99; clear c99; obtain rfl := Option.some.inj H; go_wp2; first | go_end0 | ((try simp only [Exit.inBlock, Exit.then]); refine bodyPost_ret (results_none rfl _ _ _) rfl ?_)
               exact ⟨er_, pe_ HO_0.out, bb_, kp_⟩
             ·
              rw [if_neg c98] at H; have c98b0 : decide ((wrap64 ((IntKind.u64.wrap (wrap64 (a1 + a3))) / 2)) < (wrap64 ((wrap64 ((wrap64 ((IntKind.u64.wrap (wrap64 (a1 + a3))) / 2)) + a2)) - x20_2))) = false := decide_eq_false c98; clear c98; obtain rfl := Option.some.inj H; go_wp2; first | go_end0 | ((try simp only [Exit.inBlock, Exit.then]); refine bodyPost_ret (results_none rfl _ _ _) rfl ?_)
              exact ⟨er_, pe_ HO_0.out, bb_, kp_⟩
set_option maxHeartbeats 8000000 in
set_option maxRecDepth 100000 in
theorem slices_symMergeCmpFunc_int.calls (k : Nat) : ∀ (P0_ : Nat → Prop) (u9000_ : Value) (l0 : List Int) (a1 : Int) (a2 : Int) (a3 : Int) (a4 : X1.Cmp) (fc : FuncId) (caps : Array Value) (r : List Int) (w0 w : World) (hB : Below w0.heap.size w0 w) (ho0 : Kd.R (Kd.int .i64) 3 w w0.heap.size P0_ u9000_ l0) (hF_ : X1.FnC Try.prog fc caps w P0_ a4) (h : slices_symMergeCmpFunc_int.f k l0 a1 a2 a3 a4 = some r),
 Calls Try.prog 126 #[u9000_, .int .i64 a1, .int .i64 a2, .int .i64 a3, (.func (.func fc) #[] caps)] w fun e w' => e = .returned (.tuple #[]) ∧ Kd.R (Kd.int .i64) 3 w' w0.heap.size (fun k_ => (P0_ k_ ∨ w.heap.size ≤ k_)) u9000_ r ∧ Below w0.heap.size w0 w' ∧ Kept w w' (fun k_ => P0_ k_) := by
 induction k using Nat.strongRecOn with
 | _ k ih =>
 intro P0_ u9000_ l0 a1 a2 a3 a4 fc caps r w0 w hB ho0 hF_ h
 by_cases c6 : (wrap64 (a2 - a1)) = 1
 ·
  exact slices_symMergeCmpFunc_int.callsA k P0_ u9000_ l0 a1 a2 a3 a4 fc caps r w0 w hB ho0 hF_ h c6
 ·
  by_cases c33 : (wrap64 (a3 - a2)) = 1
  ·
   exact slices_symMergeCmpFunc_int.callsB k P0_ u9000_ l0 a1 a2 a3 a4 fc caps r w0 w hB ho0 hF_ h c6 c33
  ·
   exact slices_symMergeCmpFunc_int.callsC k ih P0_ u9000_ l0 a1 a2 a3 a4 fc caps r w0 w hB ho0 hF_ h c6 c33
end Go.Proofs.Ytomanpmffjkkgaa.SB
namespace Go.Proofs.Ytomanpmffjkkgaa.SB
open Go Go.RowKit Go.Proofs.Ytomanpmffjkkgaa Go.Proofs.YtomanpmffjkkgaaW.PrintWords Go.Proofs.YtomanpmffjkkgaaW.PrintLast Go.Proofs.YtomanpmffjkkgaaW.PrintMore
set_option linter.unusedVariables false
set_option linter.unusedSimpArgs false
mutual
def slices_stableCmpFunc_int.l0 : Nat → List Int → Int → X1.Cmp → Int → Int → Int → Option (List Int)
 | 0, _, _, _, _, _, _ => none
 | k + 1, x0, x1, x2, x6, x7, x8 => if x8 ≤ x1 then ((slices_insertionSortCmpFunc_int.f k x0 x7 x8 x2).bind fun t237 => (slices_stableCmpFunc_int.l0 k t237 x1 x2 x6 x8 (wrap64 (x8 + x6)))) else ((slices_insertionSortCmpFunc_int.f k x0 x7 x1 x2).bind fun t238 => (slices_stableCmpFunc_int.l1 k t238 x1 x2 x6))
def slices_stableCmpFunc_int.l1 : Nat → List Int → Int → X1.Cmp → Int → Option (List Int)
 | 0, _, _, _, _ => none
 | k + 1, x0, x1, x2, x6 => if x6 < x1 then (slices_stableCmpFunc_int.l2 k x0 x1 x2 x6 0 (wrap64 (2 * x6))) else (some x0)
def slices_stableCmpFunc_int.l2 : Nat → List Int → Int → X1.Cmp → Int → Int → Int → Option (List Int)
 | 0, _, _, _, _, _, _ => none
 | k + 1, x0, x1, x2, x6, x7, x8 => if x8 ≤ x1 then ((slices_symMergeCmpFunc_int.f k x0 x7 (wrap64 (x7 + x6)) x8 x2).bind fun t239 => (slices_stableCmpFunc_int.l2 k t239 x1 x2 x6 x8 (wrap64 (x8 + (wrap64 (2 * x6)))))) else (if (wrap64 (x7 + x6)) < x1 then ((slices_symMergeCmpFunc_int.f k x0 x7 (wrap64 (x7 + x6)) x1 x2).bind fun t240 => (slices_stableCmpFunc_int.l1 k t240 x1 x2 (wrap64 (x6 * 2)))) else (slices_stableCmpFunc_int.l1 k x0 x1 x2 (wrap64 (x6 * 2))))
end
def slices_stableCmpFunc_int.f (k : Nat) (l0 : List Int) (a1 : Int) (a2 : X1.Cmp) : Option (List Int) := slices_stableCmpFunc_int.l0 k l0 a1 a2 20 0 20
set_option maxHeartbeats 8000000 in
set_option maxRecDepth 100000 in
theorem slices_stableCmpFunc_int.calls (k : Nat) (P0_ : Nat → Prop) (u9000_ : Value) (l0 : List Int) (a1 : Int) (a2 : X1.Cmp) (fc : FuncId) (caps : Array Value) (r : List Int) (w0 w : World) (hB : Below w0.heap.size w0 w) (ho0 : Kd.R (Kd.int .i64) 3 w w0.heap.size P0_ u9000_ l0) (hF_ : X1.FnC Try.prog fc caps w P0_ a2) (h : slices_stableCmpFunc_int.f k l0 a1 a2 = some r) :
 Calls Try.prog 118 #[u9000_, .int .i64 a1, (.func (.func fc) #[] caps)] w fun e w' => e = .returned (.tuple #[]) ∧ Kd.R (Kd.int .i64) 3 w' w0.heap.size (fun k_ => (P0_ k_ ∨ w.heap.size ≤ k_)) u9000_ r ∧ Below w0.heap.size w0 w' ∧ Kept w w' (fun k_ => P0_ k_) := by
 have HF0_ := Aside0.mk hF_; obtain ⟨fn_, hfn_, hnm_, hbd_, hcl_⟩ := hF_; have HFn_ := Aside0.mk hfn_; have HNm_ := Aside0.mk hnm_; have HBd_ := Aside0.mk hbd_; have HCl_ := Aside0.mk hcl_; clear hfn_ hnm_ hbd_ hcl_; have HO0 := Aside0.mk (show Kd.R (Kd.int .i64) 3 w w0.heap.size (fun k_ => (P0_ k_ ∨ w.heap.size ≤ k_)) u9000_ l0 from Kd.R_mono ho0 (fun k_ hk => (.inl hk))); have HK := Aside0.mk (Kept.refl w (fun k_ => P0_ k_)); have HW0 := Aside0.mk hB.size; have HB := Aside0.mk hB; clear hB; have H : (slices_stableCmpFunc_int.l0 k l0 a1 a2 20 0 20) = some r := h; clear h; have H' := Aside0.mk H; clear H; go_enter Try.func118, Try.ntmps118; go_wp2; go_loopg [7, 8] k (fun kq v7 v8 w' => ∃ (x0_1 : List Int) (x7_1 : Int) (x8_1 : Int), v7 = .int .i64 x7_1 ∧ v8 = .int .i64 x8_1 ∧ Aside0 (slices_stableCmpFunc_int.l0 kq x0_1 a1 a2 20 x7_1 x8_1 = some r) ∧ Aside0 (kq ≤ k) ∧ Aside0 (Kd.R (Kd.int .i64) 3 w' w0.heap.size (fun k_ => (P0_ k_ ∨ w.heap.size ≤ k_)) u9000_ x0_1) ∧ Aside0 (Kept w w' (fun k_ => P0_ k_)) ∧ Aside0 (Below w0.heap.size w0 w'))
 case atStart => exact ⟨(l0), (0), (20), (rs_), (rs_), H', ⟨Nat.le_refl _⟩, ⟨pe_ HO0.out⟩, ⟨kp_⟩, ⟨bb_⟩⟩
 case round =>
  clear H'; try clear p2
  obtain ⟨x0_1, x7_1, x8_1, rfl, rfl, HA, HK1, HO_0, HK, HB⟩ := hrel
  cases gk with
  | zero => exact absurd HA.out (by simp [slices_stableCmpFunc_int.l0])
  | succ k1 =>
   have H := HA.out; clear HA; simp only [slices_stableCmpFunc_int.l0] at H
   by_cases c4 : x8_1 ≤ a1
   ·
    rw [if_pos c4] at H; have c4b0 : decide (x8_1 ≤ a1) = true := decide_eq_true c4; clear c4; replace H := Option.bind_eq_some_iff.mp H; obtain ⟨t237, A50, H⟩ := H; have A5 := Aside0.mk A50; clear A50; have H' := Aside0.mk H; clear H; obtain ⟨Ao6, co6, eo6⟩ := Kd.R_slice HO_0.out; subst eo6; go_wp2_with (first | ((with_reducible refine gate_callee (f := 125) rfl ?_); refine goesL_ (some 18) rfl rfl Try.func125 kr_ rfl #[.slice Ao6 x0_1.length co6, .int .i64 x7_1, .int .i64 x8_1, (.func (.func fc) #[] caps)] rfl (bc_) ?_; (with_reducible refine (slices_insertionSortCmpFunc_int.calls k1 (fun k_ => some k_ = (.slice Ao6 x0_1.length co6 : Value).ownBlock) (.slice Ao6 x0_1.length co6) x0_1 x7_1 x8_1 a2 fc caps t237 w0 _ ?side1 ?side2 (X1.FnC.mono HF0_.out (kp_) (X1.R_own1 HO_0.out)) A5.out).mono ?_); (case side1 => repeat (first | (with_reducible first | exact HB.out | apply below_alloc | apply pw_below_drewN | apply below_drew1) | exact HB.out)); (case side2 => exact Kd.R_tight rfl HO_0.out); rintro e w7 ⟨rfl, hy0, hb, hkp⟩; refine ⟨_, rfl, ?_⟩; have n_ := as3_ (Kd.R_reok rfl hy0 (fun k_ e_ => HO_0.out.1 k_ e_)) (Kept.then_ (S := (fun k_ => P0_ k_)) (kp_) hkp (fun k_ hs_ => (fun e_ => (HO_0.out.1 k_ e_.symm)) hs_)) (hb); clear HO_0 HK HB; obtain ⟨HO_0, HK, HB⟩ := n_; (try clear hb); (try clear hkp); (try clear hy0)))
    go_roundg k1
    case measure => have := HK1.out; omega
    case rel => exact ⟨(t237), (x8_1), (wrap64 (x8_1 + 20)), (rs_), (rs_), H', ⟨by have := HK1.out; omega⟩, ⟨pe_ HO_0.out⟩, ⟨kp_⟩, ⟨bb_⟩⟩
   ·
    rw [if_neg c4] at H; have c4b0 : decide (x8_1 ≤ a1) = false := decide_eq_false c4; clear c4; replace H := Option.bind_eq_some_iff.mp H; obtain ⟨t238, A80, H⟩ := H; have A8 := Aside0.mk A80; clear A80; have H' := Aside0.mk H; clear H; obtain ⟨Ao9, co9, eo9⟩ := Kd.R_slice HO_0.out; subst eo9; go_wp2_with (first | ((with_reducible refine gate_callee (f := 125) rfl ?_); refine goesL_ (some 27) rfl rfl Try.func125 kr_ rfl #[.slice Ao9 x0_1.length co9, .int .i64 x7_1, .int .i64 a1, (.func (.func fc) #[] caps)] rfl (bc_) ?_; (with_reducible refine (slices_insertionSortCmpFunc_int.calls k1 (fun k_ => some k_ = (.slice Ao9 x0_1.length co9 : Value).ownBlock) (.slice Ao9 x0_1.length co9) x0_1 x7_1 a1 a2 fc caps t238 w0 _ ?side1 ?side2 (X1.FnC.mono HF0_.out (kp_) (X1.R_own1 HO_0.out)) A8.out).mono ?_); (case side1 => repeat (first | (with_reducible first | exact HB.out | apply below_alloc | apply pw_below_drewN | apply below_drew1) | exact HB.out)); (case side2 => exact Kd.R_tight rfl HO_0.out); rintro e w10 ⟨rfl, hy0, hb, hkp⟩; refine ⟨_, rfl, ?_⟩; have n_ := as3_ (Kd.R_reok rfl hy0 (fun k_ e_ => HO_0.out.1 k_ e_)) (Kept.then_ (S := (fun k_ => P0_ k_)) (kp_) hkp (fun k_ hs_ => (fun e_ => (HO_0.out.1 k_ e_.symm)) hs_)) (hb); clear HO_0 HK HB; obtain ⟨HO_0, HK, HB⟩ := n_; (try clear hb); (try clear hkp); (try clear hy0)))
    simp only [Act.put, List.setIfInBounds_toArray, List.set_cons_succ, List.set_cons_zero]
    go_loopg [6] k1 (fun kq v6 w' => ∃ (x0_2 : List Int) (x6_2 : Int), v6 = .int .i64 x6_2 ∧ Aside0 (slices_stableCmpFunc_int.l1 kq x0_2 a1 a2 x6_2 = some r) ∧ Aside0 (kq ≤ k1) ∧ Aside0 (Kd.R (Kd.int .i64) 3 w' w0.heap.size (fun k_ => (P0_ k_ ∨ w.heap.size ≤ k_)) (.slice Ao9 x0_1.length co9) x0_2) ∧ Aside0 (Kept w w' (fun k_ => P0_ k_)) ∧ Aside0 (Below w0.heap.size w0 w'))
    case atStart => exact ⟨(t238), (20), (rs_), H', ⟨Nat.le_refl _⟩, ⟨pe_ HO_0.out⟩, ⟨kp_⟩, ⟨bb_⟩⟩
    case round =>
     clear H'; (try clear p2); (try clear c4b0); (try clear p6); (try clear p2); obtain ⟨x0_2, x6_2, rfl, HA, HK2, HO_0, HK, HB⟩ := hrel; have hl0_2 := (Kd.R_reads' HO_0.out).1; rw [hl0_2] at HO_0; (try simp only [hl0_2])
     cases gk with
     | zero => exact absurd HA.out (by simp [slices_stableCmpFunc_int.l1])
     | succ k2 =>
      have H := HA.out; clear HA; simp only [slices_stableCmpFunc_int.l1] at H
      by_cases c11 : x6_2 < a1
      ·
       rw [if_pos c11] at H; have c11b0 : decide (x6_2 < a1) = true := decide_eq_true c11; clear c11; have H' := Aside0.mk H; clear H; go_wp2; go_loopg [7, 8] k2 (fun kq v7 v8 w' => ∃ (x0_3 : List Int) (x7_3 : Int) (x8_3 : Int), v7 = .int .i64 x7_3 ∧ v8 = .int .i64 x8_3 ∧ Aside0 (slices_stableCmpFunc_int.l2 kq x0_3 a1 a2 x6_2 x7_3 x8_3 = some r) ∧ Aside0 (kq ≤ k2) ∧ Aside0 (Kd.R (Kd.int .i64) 3 w' w0.heap.size (fun k_ => (P0_ k_ ∨ w.heap.size ≤ k_)) (.slice Ao9 x0_2.length co9) x0_3) ∧ Aside0 (Kept w w' (fun k_ => P0_ k_)) ∧ Aside0 (Below w0.heap.size w0 w'))
       case atStart => exact ⟨(x0_2), (0), (wrap64 (2 * x6_2)), (rs_), (rs_), H', ⟨Nat.le_refl _⟩, ⟨by (try simp only [hl0_2]); (with_reducible repeat (first | apply Kd.R_alloc | apply Kd.R_drewN | apply Kd.R_drew)); exact HO_0.out⟩, ⟨kp_⟩, ⟨bb_⟩⟩
       case round =>
        clear H'; (try clear c1); (try clear p2); (try clear c4b0); (try clear p6); (try clear c11b0); (try clear p2); (try clear p6); obtain ⟨x0_3, x7_3, x8_3, rfl, rfl, HA, HK3, HO_0, HK, HB⟩ := hrel; have hl0_3 := (Kd.R_reads' HO_0.out).1; rw [hl0_3] at HO_0; (try simp only [hl0_3])
        cases gk with
        | zero => exact absurd HA.out (by simp [slices_stableCmpFunc_int.l2])
        | succ k3 =>
         have H := HA.out; clear HA; simp only [slices_stableCmpFunc_int.l2] at H
         by_cases c12 : x8_3 ≤ a1
         ·
          rw [if_pos c12] at H; have c12b0 : decide (x8_3 ≤ a1) = true := decide_eq_true c12; clear c12; replace H := Option.bind_eq_some_iff.mp H; obtain ⟨t239, A130, H⟩ := H; have A13 := Aside0.mk A130; clear A130; have H' := Aside0.mk H; clear H; go_wp2_with (first | ((with_reducible refine gate_callee (f := 126) rfl ?_); refine goesL_ (some 43) rfl rfl Try.func126 kr_ rfl #[.slice Ao9 x0_3.length co9, .int .i64 x7_3, .int .i64 (wrap64 (x7_3 + x6_2)), .int .i64 x8_3, (.func (.func fc) #[] caps)] rfl (bc_) ?_; (with_reducible refine (slices_symMergeCmpFunc_int.calls k3 (fun k_ => some k_ = (.slice Ao9 x0_3.length co9 : Value).ownBlock) (.slice Ao9 x0_3.length co9) x0_3 x7_3 (wrap64 (x7_3 + x6_2)) x8_3 a2 fc caps t239 w0 _ ?side1 ?side2 (X1.FnC.mono HF0_.out (kp_) (X1.R_own1 HO_0.out)) A13.out).mono ?_); (case side1 => repeat (first | (with_reducible first | exact HB.out | apply below_alloc | apply pw_below_drewN | apply below_drew1) | exact HB.out)); (case side2 => exact Kd.R_tight rfl HO_0.out); rintro e w14 ⟨rfl, hy0, hb, hkp⟩; refine ⟨_, rfl, ?_⟩; have n_ := as3_ (Kd.R_reok rfl hy0 (fun k_ e_ => HO_0.out.1 k_ e_)) (Kept.then_ (S := (fun k_ => P0_ k_)) (kp_) hkp (fun k_ hs_ => (fun e_ => (HO_0.out.1 k_ e_.symm)) hs_)) (hb); clear HO_0 HK HB; obtain ⟨HO_0, HK, HB⟩ := n_; (try clear hb); (try clear hkp); (try clear hy0)))
          (try simp only [← hl0_3])
          go_roundg k3
          case measure => have := HK1.out; have := HK2.out; have := HK3.out; omega
          case rel => exact ⟨(t239), (x8_3), (wrap64 (x8_3 + (wrap64 (2 * x6_2)))), (rs_), (rs_), H', ⟨by have := HK1.out; have := HK2.out; have := HK3.out; omega⟩, ⟨by (try simp only [hl0_2]); (try simp only [hl0_3]); (with_reducible repeat (first | apply Kd.R_alloc | apply Kd.R_drewN | apply Kd.R_drew)); exact HO_0.out⟩, ⟨kp_⟩, ⟨bb_⟩⟩
         ·
          rw [if_neg c12] at H; have c12b0 : decide (x8_3 ≤ a1) = false := decide_eq_false c12; clear c12
          by_cases c15 : (wrap64 (x7_3 + x6_2)) < a1
          ·
           rw [if_pos c15] at H; have c15b0 : decide ((wrap64 (x7_3 + x6_2)) < a1) = true := decide_eq_true c15; clear c15; replace H := Option.bind_eq_some_iff.mp H; obtain ⟨t240, A160, H⟩ := H; have A16 := Aside0.mk A160; clear A160; have H' := Aside0.mk H; clear H; go_wp2_with (first | ((with_reducible refine gate_callee (f := 126) rfl ?_); refine goesL_ (some 60) rfl rfl Try.func126 kr_ rfl #[.slice Ao9 x0_3.length co9, .int .i64 x7_3, .int .i64 (wrap64 (x7_3 + x6_2)), .int .i64 a1, (.func (.func fc) #[] caps)] rfl (bc_) ?_; (with_reducible refine (slices_symMergeCmpFunc_int.calls k3 (fun k_ => some k_ = (.slice Ao9 x0_3.length co9 : Value).ownBlock) (.slice Ao9 x0_3.length co9) x0_3 x7_3 (wrap64 (x7_3 + x6_2)) a1 a2 fc caps t240 w0 _ ?side1 ?side2 (X1.FnC.mono HF0_.out (kp_) (X1.R_own1 HO_0.out)) A16.out).mono ?_); (case side1 => repeat (first | (with_reducible first | exact HB.out | apply below_alloc | apply pw_below_drewN | apply below_drew1) | exact HB.out)); (case side2 => exact Kd.R_tight rfl HO_0.out); rintro e w17 ⟨rfl, hy0, hb, hkp⟩; refine ⟨_, rfl, ?_⟩; have n_ := as3_ (Kd.R_reok rfl hy0 (fun k_ e_ => HO_0.out.1 k_ e_)) (Kept.then_ (S := (fun k_ => P0_ k_)) (kp_) hkp (fun k_ hs_ => (fun e_ => (HO_0.out.1 k_ e_.symm)) hs_)) (hb); clear HO_0 HK HB; obtain ⟨HO_0, HK, HB⟩ := n_; (try clear hb); (try clear hkp); (try clear hy0)))
           (try simp only [← hl0_2, ← hl0_3])
           go_roundg k3
           case measure => have := HK1.out; have := HK2.out; have := HK3.out; omega
           case rel => exact ⟨(t240), (wrap64 (x6_2 * 2)), (rs_), H', ⟨by have := HK1.out; have := HK2.out; have := HK3.out; omega⟩, ⟨by (try simp only [hl0_2]); (try simp only [hl0_3]); (with_reducible repeat (first | apply Kd.R_alloc | apply Kd.R_drewN | apply Kd.R_drew)); exact HO_0.out⟩, ⟨kp_⟩, ⟨bb_⟩⟩
          ·
           rw [if_neg c15] at H; have c15b0 : decide ((wrap64 (x7_3 + x6_2)) < a1) = false := decide_eq_false c15; clear c15; have H' := Aside0.mk H; clear H; go_wp2; (try simp only [← hl0_2, ← hl0_3])
           go_roundg k3
           case measure => have := HK1.out; have := HK2.out; have := HK3.out; omega
           case rel => exact ⟨(x0_3), (wrap64 (x6_2 * 2)), (rs_), H', ⟨by have := HK1.out; have := HK2.out; have := HK3.out; omega⟩, ⟨by (try simp only [hl0_2]); (try simp only [hl0_3]); (with_reducible repeat (first | apply Kd.R_alloc | apply Kd.R_drewN | apply Kd.R_drew)); exact HO_0.out⟩, ⟨kp_⟩, ⟨bb_⟩⟩
      ·
       rw [if_neg c11] at H; have c11b0 : decide (x6_2 < a1) = false := decide_eq_false c11; clear c11; obtain rfl := Option.some.inj H; go_wp2; first | go_end0 | ((try simp only [Exit.inBlock, Exit.then]); refine bodyPost_ret (results_none rfl _ _ _) rfl ?_)
       exact ⟨er_, (by first | exact (pe_ HO_0.out) | (simp only [hl0_2]; exact (pe_ HO_0.out))), bb_, kp_⟩
theorem SortStable.calls (k : Nat) (P0_ : Nat → Prop) (u9000_ : Value) (l0 : List Int) (a1 : X1.Cmp) (fc : FuncId) (caps : Array Value) (r : List Int) (w0 w : World) (hB : Below w0.heap.size w0 w) (ho0 : Kd.R (Kd.int .i64) 3 w w0.heap.size P0_ u9000_ l0) (hF_ : X1.FnC Try.prog fc caps w P0_ a1) (h : slices_stableCmpFunc_int.f k l0 (l0.length : Int) a1 = some r) :
 Calls Try.prog 103 #[u9000_, (.func (.func fc) #[] caps)] w fun e w' => e = .returned (.tuple #[]) ∧ Kd.R (Kd.int .i64) 3 w' w0.heap.size (fun k_ => (P0_ k_ ∨ w.heap.size ≤ k_)) u9000_ r ∧ Below w0.heap.size w0 w' ∧ Kept w w' (fun k_ => P0_ k_) := by
 obtain ⟨A0, c0, rfl⟩ := Kd.R_slice ho0; have HC := Aside0.mk (slices_stableCmpFunc_int.calls k P0_ _ l0 _ a1 fc caps r w0 w hB ho0 hF_ h); clear hB ho0 hF_ h; go_enter Try.func103, Try.ntmps103; go_wp2_with (go_at_call 118; refine HC.out.mono ?_; rintro e w5 ⟨rfl, ho, hb, hk⟩; have HO := Aside0.mk ho; have HB := Aside0.mk hb; have HK := Aside0.mk hk; clear ho hb hk)
 first | go_end0 | ((try simp only [Exit.inBlock, Exit.then]); refine bodyPost_ret (results_none rfl _ _ _) rfl ?_)
 exact ⟨rfl, HO.out, HB.out, HK.out⟩
end Go.Proofs.Ytomanpmffjkkgaa.SB
namespace Go.Proofs.Ytomanpmffjkkgaa.P
open Go.RowKit Go.Proofs.YtomanpmffjkkgaaW.PrintWords Go.Proofs.YtomanpmffjkkgaaW.PrintLast Go.Proofs.YtomanpmffjkkgaaW.PrintMore
attribute [local go_sem] max2_int min2_int max_two min_two max_three min_three max_four min_four   -- for this text's walks alone
set_option linter.unusedVariables false
set_option linter.unusedSimpArgs false
def errW : Option Int → Value
 | none => .nilIface
 | some c => .iface 0 (.int .i64 c)
theorem errW_none : errW none = .nilIface := rfl
theorem errW_some (c : Int) : errW (some c) = .iface 0 (.int .i64 c) := rfl
theorem info3 : (Try.prog.info? 3).map (fun i => (i.zero, i.size, i.bytes)) = some (some (.int .i64 0), 1, 8) := by kernel_rfl
theorem info37 : (Try.prog.info? 37).map (fun i => (i.zero, i.size, i.bytes)) = some (some (.agg #[(.int .i64 0), (.int .i64 0), (.int .i64 0), (.int .i64 0), (.int .i64 0)]), 5, 40) := by kernel_rfl
structure S37 where
 f0 : Int
 f1 : Int
 f2 : Int
 f3 : Int
 f4 : Int
def z37 : S37 := ⟨(0 : Int), (0 : Int), (0 : Int), (0 : Int), (0 : Int)⟩
def k37 : Kd S37 := Kd.iso (Kd.pair (Kd.int .i64) (Kd.pair (Kd.int .i64) (Kd.pair (Kd.int .i64) (Kd.pair (Kd.int .i64) (Kd.int .i64))))) (fun x : S37 => (x.f0, x.f1, x.f2, x.f3, x.f4))
theorem k37_open {w : World} {x : S37} {cs : List Value} (h : k37.K w x cs) : cs = [.int .i64 x.f0, .int .i64 x.f1, .int .i64 x.f2, .int .i64 x.f3, .int .i64 x.f4] := by
 obtain ⟨_, _, rfl, rfl, ⟨_, _, rfl, rfl, ⟨_, _, rfl, rfl, ⟨_, _, rfl, rfl, rfl⟩⟩⟩⟩ := h; exact rfl
theorem k37_openM {w : World} {base : Nat} {ok : Nat → Prop} {x : S37} {cs : List Value} (h : k37.M w base ok x cs) : cs = [.int .i64 x.f0, .int .i64 x.f1, .int .i64 x.f2, .int .i64 x.f3, .int .i64 x.f4] := by
 obtain ⟨_, _, rfl, rfl, ⟨_, _, rfl, rfl, ⟨_, _, rfl, rfl, ⟨_, _, rfl, rfl, rfl⟩⟩⟩⟩ := h; exact rfl
theorem k37_mkM (w : World) (base : Nat) (ok : Nat → Prop) (x : S37)  : k37.M w base ok x [.int .i64 x.f0, .int .i64 x.f1, .int .i64 x.f2, .int .i64 x.f3, .int .i64 x.f4] := ⟨[.int .i64 x.f0], [.int .i64 x.f1, .int .i64 x.f2, .int .i64 x.f3, .int .i64 x.f4], rfl, rfl, ⟨[.int .i64 x.f1], [.int .i64 x.f2, .int .i64 x.f3, .int .i64 x.f4], rfl, rfl, ⟨[.int .i64 x.f2], [.int .i64 x.f3, .int .i64 x.f4], rfl, rfl, ⟨[.int .i64 x.f3], [.int .i64 x.f4], rfl, rfl, rfl⟩⟩⟩⟩
def rd_T37 (xs : List S37) (i : Int) : S37 := xs.getD i.toNat z37
theorem at_T37 {w : World} {A : Option Addr} {n : Nat} {xs : List S37} (h : Kd.C k37 w A n xs) (i : Int) (h0 : 0 ≤ i) (h1 : i < n) : ∃ ad , A = some ad ∧ w.cell? (ad.add (i.toNat * 5)) = some (.int .i64 (rd_T37 xs i).f0) ∧ w.cell? ⟨(ad.add (i.toNat * 5)).block, (ad.add (i.toNat * 5)).off + 1, none⟩ = some (.int .i64 (rd_T37 xs i).f1) ∧ w.cell? ⟨(ad.add (i.toNat * 5)).block, (ad.add (i.toNat * 5)).off + 2, none⟩ = some (.int .i64 (rd_T37 xs i).f2) ∧ w.cell? ⟨(ad.add (i.toNat * 5)).block, (ad.add (i.toNat * 5)).off + 3, none⟩ = some (.int .i64 (rd_T37 xs i).f3) ∧ w.cell? ⟨(ad.add (i.toNat * 5)).block, (ad.add (i.toNat * 5)).off + 4, none⟩ = some (.int .i64 (rd_T37 xs i).f4) := by
 obtain ⟨ad, c, e, _, hK, hc0⟩ := Kd.C_get h z37 i h0 h1; have hc : ∀ j u, c[j]? = some u → w.cell? (ad.add (i.toNat * 5 + j)) = some u := hc0; obtain rfl := k37_open hK; exact ⟨ad, e, hc 0 _ rfl, by rw [← add_field _ _ 1 (by omega)]; exact hc 1 _ rfl, by rw [← add_field _ _ 2 (by omega)]; exact hc 2 _ rfl, by rw [← add_field _ _ 3 (by omega)]; exact hc 3 _ rfl, by rw [← add_field _ _ 4 (by omega)]; exact hc 4 _ rfl⟩
end Go.Proofs.Ytomanpmffjkkgaa.P
namespace Go.Proofs.Ytomanpmffjkkgaa
section
open Go Go.RowKit Go.Proofs.YtomanpmffjkkgaaW.PrintWords Go.Proofs.YtomanpmffjkkgaaW.PrintLast Go.Proofs.YtomanpmffjkkgaaW.PrintMore
theorem bg_ {q p : Prop} (g : q) (h : q → p := by intro g_; repeat (first | (with_reducible first | exact HB.out | apply below_alloc | apply pw_below_drewN | apply below_drew1 | refine below_set ?_ g_) | exact HB.out)) : p := h g
theorem pb_ {q p : Prop} (g : q) (h : q → p := by intro g_; (with_reducible repeat (first | refine blk_drewN ?_ _ | refine blk_drew ?_ | refine blk_alloc ?_ _)); exact g_) : p := h g
theorem be_ {P : Program} {ops : Array Oper} {Q : Exit → Act → World → Prop} {rest : List Oper} {o : Oper} {a : Act} {W : World} (N : Nat) {cs : Array Value} {t : TypeId} (h : ∀ g, g = W.heap.size → ∀ w1, w1.heap[g]? = some (.cells cs t (0, 0)) → Below W.heap.size W w1 → wpList P ops Q rest (a.put o.dst (.pointer (some ⟨g, 0, none⟩))) w1) (hd : o.dst = some N := by rfl) (hg : o.guard = none := by rfl) (hr : (execOp a.eval o).run P W = .ok (.value (.pointer (some ⟨W.heap.size, 0, none⟩))) (W.alloc (.cells cs t (0, 0))) := by first | (go_simp; done) | (go_simp; rfl)) : wpList P ops Q (o :: rest) a W := box_event hg hd hr h
theorem ce5_ {w : World} {g : Nat} {t : TypeId} {v0 v1 v2 v3 v4 : Value} (h : w.heap[g]? = some (.cells #[v0, v1, v2, v3, v4] t (0, 0))) : w.cell? ⟨g, 0, none⟩ = some v0 ∧ w.cell? ⟨g, 1, none⟩ = some v1 ∧ w.cell? ⟨g, 2, none⟩ = some v2 ∧ w.cell? ⟨g, 3, none⟩ = some v3 ∧ w.cell? ⟨g, 4, none⟩ = some v4 ∧ w.frozen? ⟨g, 0, none⟩ = false ∧ w.frozen? ⟨g, 1, none⟩ = false ∧ w.frozen? ⟨g, 2, none⟩ = false ∧ w.frozen? ⟨g, 3, none⟩ = false ∧ w.frozen? ⟨g, 4, none⟩ = false := ⟨(blk_cell h 0).trans rfl, (blk_cell h 1).trans rfl, (blk_cell h 2).trans rfl, (blk_cell h 3).trans rfl, (blk_cell h 4).trans rfl, blk_frozen h 0, blk_frozen h 1, blk_frozen h 2, blk_frozen h 3, blk_frozen h 4⟩
theorem gs_ {g : Nat} {w W : World} (hg : g = W.heap.size) (h : Below w.heap.size w W := by repeat (first | (with_reducible first | exact HB.out | apply below_alloc | apply pw_below_drewN | apply below_drew1) | exact HB.out)) : w.heap.size ≤ g := by rw [hg]; exact below_size h
theorem bh_ {q r p : Prop} (g : q) (f : r) (h : q → r → p := by intro g_ f_; repeat (first | (with_reducible first | exact HB.out | apply below_alloc | apply pw_below_drewN | apply below_drew1 | refine below_set ?_ g_ | refine below_set ?_ f_) | exact HB.out)) : p := h g f
theorem dr_ {p : Prop} (h : p := by repeat (first | exact Drawn0.refl _ | apply Drawn0.step)) : p := h
theorem as4_ {p0 p1 p2 p3 : Prop} (x0 : p0) (x1 : p1) (x2 : p2) (x3 : p3) : Aside0 p0 ∧ Aside0 p1 ∧ Aside0 p2 ∧ Aside0 p3 := ⟨⟨x0⟩, ⟨x1⟩, ⟨x2⟩, ⟨x3⟩⟩
theorem as7_ {p0 p1 p2 p3 p4 p5 p6 : Prop} (x0 : p0) (x1 : p1) (x2 : p2) (x3 : p3) (x4 : p4) (x5 : p5) (x6 : p6) : Aside0 p0 ∧ Aside0 p1 ∧ Aside0 p2 ∧ Aside0 p3 ∧ Aside0 p4 ∧ Aside0 p5 ∧ Aside0 p6 := ⟨⟨x0⟩, ⟨x1⟩, ⟨x2⟩, ⟨x3⟩, ⟨x4⟩, ⟨x5⟩, ⟨x6⟩⟩
end
end Go.Proofs.Ytomanpmffjkkgaa
namespace Go.Proofs.Ytomanpmffjkkgaa.P
open Go.RowKit Go.Proofs.YtomanpmffjkkgaaW.PrintWords Go.Proofs.YtomanpmffjkkgaaW.PrintLast Go.Proofs.YtomanpmffjkkgaaW.PrintMore
attribute [local go_sem] max2_int min2_int max_two min_two max_three min_three max_four min_four   -- for this text's walks alone
set_option linter.unusedVariables false
set_option linter.unusedSimpArgs false
def spec_l1In.f (a0 : Int) (a1 : Int) (a2 : Int) : Option (Bool) := if a0 ≥ a1 then (some (decide (a0 ≤ a2))) else (some false)
set_option maxHeartbeats 8000000 in
set_option maxRecDepth 100000 in
theorem spec_l1In.calls (a0 : Int) (a1 : Int) (a2 : Int) (r : Bool) (w : World) (h : spec_l1In.f a0 a1 a2 = some r) :
 Calls Try.prog 61 #[.int .i64 a0, .int .i64 a1, .int .i64 a2] w fun e w' => e = .returned (.bool r) ∧ Drawn0 w w' := by
 have H : (if a0 ≥ a1 then (some (decide (a0 ≤ a2))) else (some false)) = some r := h; clear h
 by_cases c4 : a0 ≥ a1
 ·
  rw [if_pos c4] at H; have c4b0 : decide (a1 ≤ a0) = true := decide_eq_true c4; clear c4; obtain rfl := Option.some.inj H; go_enter Try.func61, Try.ntmps61; go_wp2; go_ret; exact ⟨rs_, dr_⟩
 ·
  rw [if_neg c4] at H; have c4b0 : decide (a1 ≤ a0) = false := decide_eq_false c4; clear c4; obtain rfl := Option.some.inj H; go_enter Try.func61, Try.ntmps61; go_wp2; go_ret; exact ⟨rs_, dr_⟩
def spec_l1Some.f (a0 : Int) (a1 : Int) : Option (Bool) := (spec_l1In.f a0 a1 1000000000000000).bind fun t101 => (some t101)
set_option maxHeartbeats 8000000 in
set_option maxRecDepth 100000 in
theorem spec_l1Some.calls (a0 : Int) (a1 : Int) (r : Bool) (w : World) (h : spec_l1Some.f a0 a1 = some r) :
 Calls Try.prog 60 #[.int .i64 a0, .int .i64 a1] w fun e w' => e = .returned (.bool r) ∧ Drawn0 w w' := by
 have H : ((spec_l1In.f a0 a1 1000000000000000).bind fun t101 => (some t101)) = some r := h; clear h; replace H := Option.bind_eq_some_iff.mp H; obtain ⟨t101, A30, H⟩ := H; have A3 := Aside0.mk A30; clear A30; obtain rfl := Option.some.inj H; go_enter Try.func60, Try.ntmps60; go_wp2_with (first | ((with_reducible refine gate_callee (f := 61) rfl ?_); refine goesL_ (some 7) rfl rfl Try.func61 kr_ rfl #[.int .i64 a0, .int .i64 a1, .int .i64 1000000000000000] rfl (bc_) ?_; (with_reducible refine (spec_l1In.calls a0 a1 1000000000000000 t101 _ A3.out).mono ?_); rintro e w' ⟨rfl, ⟨nd, rfl⟩⟩; refine ⟨_, rfl, ?_⟩))
 go_ret; exact ⟨rs_, dr_⟩
def spec_l3No.f (a0 : Int) : Option (Bool) := (spec_l1In.f a0 1 1000).bind fun t102 => (some t102)
set_option maxHeartbeats 8000000 in
set_option maxRecDepth 100000 in
theorem spec_l3No.calls (a0 : Int) (r : Bool) (w : World) (h : spec_l3No.f a0 = some r) :
 Calls Try.prog 74 #[.int .i64 a0] w fun e w' => e = .returned (.bool r) ∧ Drawn0 w w' := by
 have H : ((spec_l1In.f a0 1 1000).bind fun t102 => (some t102)) = some r := h; clear h; replace H := Option.bind_eq_some_iff.mp H; obtain ⟨t102, A20, H⟩ := H; have A2 := Aside0.mk A20; clear A20; obtain rfl := Option.some.inj H; go_enter Try.func74, Try.ntmps74; go_wp2_with (first | ((with_reducible refine gate_callee (f := 61) rfl ?_); refine goesL_ (some 4) rfl rfl Try.func61 kr_ rfl #[.int .i64 a0, .int .i64 1, .int .i64 1000] rfl (bc_) ?_; (with_reducible refine (spec_l1In.calls a0 1 1000 t102 _ A2.out).mono ?_); rintro e w' ⟨rfl, ⟨nd, rfl⟩⟩; refine ⟨_, rfl, ?_⟩))
 go_ret; exact ⟨rs_, dr_⟩
def spec_l5Right.f (a0_0 : Int) (a0_1 : Int) (a0_2 : Int) (a0_3 : Int) (a0_4 : Int) : Option (Bool) := (spec_l3No.f a0_0).bind fun t104 => (if t104 = true then ((spec_l3No.f a0_1).bind fun t105 => (if t105 = true then ((spec_l1In.f a0_2 1 1000000000).bind fun t106 => (if t106 = true then ((spec_l1Some.f a0_3 1).bind fun t107 => (if t107 = true then ((spec_l1Some.f a0_4 0).bind fun t108 => (some t108)) else (some false))) else (some false))) else (some false))) else (some false))
set_option maxHeartbeats 8000000 in
set_option maxRecDepth 100000 in
theorem spec_l5Right.calls (a0_0 : Int) (a0_1 : Int) (a0_2 : Int) (a0_3 : Int) (a0_4 : Int) (r : Bool) (w : World) (h : spec_l5Right.f a0_0 a0_1 a0_2 a0_3 a0_4 = some r) :
 Calls Try.prog 39 #[.agg #[.int .i64 a0_0, .int .i64 a0_1, .int .i64 a0_2, .int .i64 a0_3, .int .i64 a0_4]] w fun e w' => e = .returned (.bool r) ∧ Below w.heap.size w w' := by
 have hu37 := Try.underlying37; have HB := Aside0.mk (Below.refl w.heap.size w); have H : ((spec_l3No.f a0_0).bind fun t104 => (if t104 = true then ((spec_l3No.f a0_1).bind fun t105 => (if t105 = true then ((spec_l1In.f a0_2 1 1000000000).bind fun t106 => (if t106 = true then ((spec_l1Some.f a0_3 1).bind fun t107 => (if t107 = true then ((spec_l1Some.f a0_4 0).bind fun t108 => (some t108)) else (some false))) else (some false))) else (some false))) else (some false))) = some r := h; clear h; replace H := Option.bind_eq_some_iff.mp H; obtain ⟨t104, A20, H⟩ := H; have A2 := Aside0.mk A20; clear A20
 by_cases c3 : t104 = true
 ·
  subst c3; replace H := Eq.trans (if_pos rfl).symm H; replace H := Option.bind_eq_some_iff.mp H; obtain ⟨t105, A40, H⟩ := H; have A4 := Aside0.mk A40; clear A40
  by_cases c5 : t105 = true
  ·
   subst c5; replace H := Eq.trans (if_pos rfl).symm H; replace H := Option.bind_eq_some_iff.mp H; obtain ⟨t106, A60, H⟩ := H; have A6 := Aside0.mk A60; clear A60
   by_cases c7 : t106 = true
   ·
    subst c7; replace H := Eq.trans (if_pos rfl).symm H; replace H := Option.bind_eq_some_iff.mp H; obtain ⟨t107, A80, H⟩ := H; have A8 := Aside0.mk A80; clear A80
    by_cases c9 : t107 = true
    ·
     subst c9; replace H := Eq.trans (if_pos rfl).symm H; replace H := Option.bind_eq_some_iff.mp H; obtain ⟨t108, A100, H⟩ := H; have A10 := Aside0.mk A100; clear A100; obtain rfl := Option.some.inj H; go_enter Try.func39, Try.ntmps39
     go_wp2_with (first | ((with_reducible refine gate_dst (N := 1) rfl ?_); refine be_ 1 (cs := #[.int .i64 a0_0, .int .i64 a0_1, .int .i64 a0_2, .int .i64 a0_3, .int .i64 a0_4]) (t := 37) ?_; intro gb103 hg w11 hbox hb; have n_ := as4_ (below_step (bb_) hb) (hbox) ((gs_ hg : w.heap.size ≤ gb103)) ((gs_ hg : w.heap.size ≤ gb103)); clear HB; obtain ⟨HB, BK103, GW103, GE103⟩ := n_; clear hb hbox hg; obtain ⟨hcz12_0, hcz12_1, hcz12_2, hcz12_3, hcz12_4, hfz12_0, hfz12_1, hfz12_2, hfz12_3, hfz12_4⟩ := ce5_ BK103.out) | ((with_reducible refine gate_callee (f := 74) rfl ?_); refine goesL_ (some 5) rfl rfl Try.func74 kr_ rfl #[.int .i64 a0_0] rfl (bc_) ?_; (with_reducible refine (spec_l3No.calls a0_0 true _ A2.out).mono ?_); rintro e w' ⟨rfl, ⟨nd, rfl⟩⟩; refine ⟨_, rfl, ?_⟩) | (go_at_call 74; (with_reducible refine (spec_l3No.calls a0_1 true _ A4.out).mono ?_); rintro e w' ⟨rfl, ⟨nd, rfl⟩⟩) | (go_at_call 61; (with_reducible refine (spec_l1In.calls a0_2 1 1000000000 true _ A6.out).mono ?_); rintro e w' ⟨rfl, ⟨nd, rfl⟩⟩) | (go_at_call 60; (with_reducible refine (spec_l1Some.calls a0_3 1 true _ A8.out).mono ?_); rintro e w' ⟨rfl, ⟨nd, rfl⟩⟩) | (go_at_call 60; (with_reducible refine (spec_l1Some.calls a0_4 0 t108 _ A10.out).mono ?_); rintro e w' ⟨rfl, ⟨nd, rfl⟩⟩))
     go_ret; exact ⟨er_, bg_ GE103.out⟩
    ·
     replace c9 := Bool.eq_false_iff.mpr c9; subst c9; replace H := Eq.trans (if_neg nf_).symm H; obtain rfl := Option.some.inj H; go_enter Try.func39, Try.ntmps39; go_wp2_with (first | ((with_reducible refine gate_dst (N := 1) rfl ?_); refine be_ 1 (cs := #[.int .i64 a0_0, .int .i64 a0_1, .int .i64 a0_2, .int .i64 a0_3, .int .i64 a0_4]) (t := 37) ?_; intro gb103 hg w13 hbox hb; have n_ := as4_ (below_step (bb_) hb) (hbox) ((gs_ hg : w.heap.size ≤ gb103)) ((gs_ hg : w.heap.size ≤ gb103)); clear HB; obtain ⟨HB, BK103, GW103, GE103⟩ := n_; clear hb hbox hg; obtain ⟨hcz14_0, hcz14_1, hcz14_2, hcz14_3, hcz14_4, hfz14_0, hfz14_1, hfz14_2, hfz14_3, hfz14_4⟩ := ce5_ BK103.out) | ((with_reducible refine gate_callee (f := 74) rfl ?_); refine goesL_ (some 5) rfl rfl Try.func74 kr_ rfl #[.int .i64 a0_0] rfl (bc_) ?_; (with_reducible refine (spec_l3No.calls a0_0 true _ A2.out).mono ?_); rintro e w' ⟨rfl, ⟨nd, rfl⟩⟩; refine ⟨_, rfl, ?_⟩) | (go_at_call 74; (with_reducible refine (spec_l3No.calls a0_1 true _ A4.out).mono ?_); rintro e w' ⟨rfl, ⟨nd, rfl⟩⟩) | (go_at_call 61; (with_reducible refine (spec_l1In.calls a0_2 1 1000000000 true _ A6.out).mono ?_); rintro e w' ⟨rfl, ⟨nd, rfl⟩⟩) | (go_at_call 60; (with_reducible refine (spec_l1Some.calls a0_3 1 false _ A8.out).mono ?_); rintro e w' ⟨rfl, ⟨nd, rfl⟩⟩))
     go_ret; exact ⟨er_, bg_ GE103.out⟩
   ·
    replace c7 := Bool.eq_false_iff.mpr c7; subst c7; replace H := Eq.trans (if_neg nf_).symm H; obtain rfl := Option.some.inj H; go_enter Try.func39, Try.ntmps39; go_wp2_with (first | ((with_reducible refine gate_dst (N := 1) rfl ?_); refine be_ 1 (cs := #[.int .i64 a0_0, .int .i64 a0_1, .int .i64 a0_2, .int .i64 a0_3, .int .i64 a0_4]) (t := 37) ?_; intro gb103 hg w15 hbox hb; have n_ := as4_ (below_step (bb_) hb) (hbox) ((gs_ hg : w.heap.size ≤ gb103)) ((gs_ hg : w.heap.size ≤ gb103)); clear HB; obtain ⟨HB, BK103, GW103, GE103⟩ := n_; clear hb hbox hg; obtain ⟨hcz16_0, hcz16_1, hcz16_2, hcz16_3, hcz16_4, hfz16_0, hfz16_1, hfz16_2, hfz16_3, hfz16_4⟩ := ce5_ BK103.out) | ((with_reducible refine gate_callee (f := 74) rfl ?_); refine goesL_ (some 5) rfl rfl Try.func74 kr_ rfl #[.int .i64 a0_0] rfl (bc_) ?_; (with_reducible refine (spec_l3No.calls a0_0 true _ A2.out).mono ?_); rintro e w' ⟨rfl, ⟨nd, rfl⟩⟩; refine ⟨_, rfl, ?_⟩) | (go_at_call 74; (with_reducible refine (spec_l3No.calls a0_1 true _ A4.out).mono ?_); rintro e w' ⟨rfl, ⟨nd, rfl⟩⟩) | (go_at_call 61; (with_reducible refine (spec_l1In.calls a0_2 1 1000000000 false _ A6.out).mono ?_); rintro e w' ⟨rfl, ⟨nd, rfl⟩⟩))
    go_ret; exact ⟨er_, bg_ GE103.out⟩
  ·
   replace c5 := Bool.eq_false_iff.mpr c5; subst c5; replace H := Eq.trans (if_neg nf_).symm H; obtain rfl := Option.some.inj H; go_enter Try.func39, Try.ntmps39; go_wp2_with (first | ((with_reducible refine gate_dst (N := 1) rfl ?_); refine be_ 1 (cs := #[.int .i64 a0_0, .int .i64 a0_1, .int .i64 a0_2, .int .i64 a0_3, .int .i64 a0_4]) (t := 37) ?_; intro gb103 hg w17 hbox hb; have n_ := as4_ (below_step (bb_) hb) (hbox) ((gs_ hg : w.heap.size ≤ gb103)) ((gs_ hg : w.heap.size ≤ gb103)); clear HB; obtain ⟨HB, BK103, GW103, GE103⟩ := n_; clear hb hbox hg; obtain ⟨hcz18_0, hcz18_1, hcz18_2, hcz18_3, hcz18_4, hfz18_0, hfz18_1, hfz18_2, hfz18_3, hfz18_4⟩ := ce5_ BK103.out) | ((with_reducible refine gate_callee (f := 74) rfl ?_); refine goesL_ (some 5) rfl rfl Try.func74 kr_ rfl #[.int .i64 a0_0] rfl (bc_) ?_; (with_reducible refine (spec_l3No.calls a0_0 true _ A2.out).mono ?_); rintro e w' ⟨rfl, ⟨nd, rfl⟩⟩; refine ⟨_, rfl, ?_⟩) | (go_at_call 74; (with_reducible refine (spec_l3No.calls a0_1 false _ A4.out).mono ?_); rintro e w' ⟨rfl, ⟨nd, rfl⟩⟩))
   go_ret; exact ⟨er_, bg_ GE103.out⟩
 ·
  replace c3 := Bool.eq_false_iff.mpr c3; subst c3; replace H := Eq.trans (if_neg nf_).symm H; obtain rfl := Option.some.inj H; go_enter Try.func39, Try.ntmps39; go_wp2_with (first | ((with_reducible refine gate_dst (N := 1) rfl ?_); refine be_ 1 (cs := #[.int .i64 a0_0, .int .i64 a0_1, .int .i64 a0_2, .int .i64 a0_3, .int .i64 a0_4]) (t := 37) ?_; intro gb103 hg w19 hbox hb; have n_ := as4_ (below_step (bb_) hb) (hbox) ((gs_ hg : w.heap.size ≤ gb103)) ((gs_ hg : w.heap.size ≤ gb103)); clear HB; obtain ⟨HB, BK103, GW103, GE103⟩ := n_; clear hb hbox hg; obtain ⟨hcz20_0, hcz20_1, hcz20_2, hcz20_3, hcz20_4, hfz20_0, hfz20_1, hfz20_2, hfz20_3, hfz20_4⟩ := ce5_ BK103.out) | ((with_reducible refine gate_callee (f := 74) rfl ?_); refine goesL_ (some 5) rfl rfl Try.func74 kr_ rfl #[.int .i64 a0_0] rfl (bc_) ?_; (with_reducible refine (spec_l3No.calls a0_0 false _ A2.out).mono ?_); rintro e w' ⟨rfl, ⟨nd, rfl⟩⟩; refine ⟨_, rfl, ?_⟩))
  go_ret; exact ⟨er_, bg_ GE103.out⟩
def spec_l4Before.f (a0 : Int) (a1 : Int) (a2 : Int) (a3 : Int) : Option (Bool) := if a0 < a2 then (some true) else (if a0 = a2 then (some (decide (a1 < a3))) else (some false))
set_option maxHeartbeats 8000000 in
set_option maxRecDepth 100000 in
theorem spec_l4Before.calls (a0 : Int) (a1 : Int) (a2 : Int) (a3 : Int) (r : Bool) (w : World) (h : spec_l4Before.f a0 a1 a2 a3 = some r) :
 Calls Try.prog 75 #[.int .i64 a0, .int .i64 a1, .int .i64 a2, .int .i64 a3] w fun e w' => e = .returned (.bool r) ∧ Drawn0 w w' := by
 have H : (if a0 < a2 then (some true) else (if a0 = a2 then (some (decide (a1 < a3))) else (some false))) = some r := h; clear h
 by_cases c5 : a0 < a2
 ·
  rw [if_pos c5] at H; have c5b0 : decide (a0 < a2) = true := decide_eq_true c5; clear c5; obtain rfl := Option.some.inj H; go_enter Try.func75, Try.ntmps75; go_wp2; go_ret; exact ⟨rs_, dr_⟩
 ·
  rw [if_neg c5] at H; have c5b0 : decide (a0 < a2) = false := decide_eq_false c5; clear c5
  by_cases c6 : a0 = a2
  ·
   rw [if_pos c6] at H; have c6b0 : (a0 == a2) = true := beq_iff_eq.mpr c6; have c6b1 : (a0 != a2) = false := bne_eq_false_iff_eq.mpr c6; clear c6; obtain rfl := Option.some.inj H; go_enter Try.func75, Try.ntmps75; go_wp2; go_ret; exact ⟨rs_, dr_⟩
  ·
   rw [if_neg c6] at H; have c6b0 : (a0 == a2) = false := beq_eq_false_iff_ne.mpr c6; have c6b1 : (a0 != a2) = true := bne_iff_ne.mpr c6; obtain rfl := Option.some.inj H; go_enter Try.func75, Try.ntmps75; go_wp2; go_ret; exact ⟨rs_, dr_⟩
def spec_l5Before.f (a0_0 : Int) (a0_1 : Int) (a0_2 : Int) (a0_3 : Int) (a0_4 : Int) (a1_0 : Int) (a1_1 : Int) (a1_2 : Int) (a1_3 : Int) (a1_4 : Int) : Option (Bool) := (spec_l4Before.f a0_0 a0_1 a1_0 a1_1).bind fun t111 => (if t111 = true then (some true) else (if a0_0 = a1_0 then (if a0_1 = a1_1 then (some (decide (a0_2 < a1_2))) else (some false)) else (some false)))
set_option maxHeartbeats 8000000 in
set_option maxRecDepth 100000 in
theorem spec_l5Before.calls (a0_0 : Int) (a0_1 : Int) (a0_2 : Int) (a0_3 : Int) (a0_4 : Int) (a1_0 : Int) (a1_1 : Int) (a1_2 : Int) (a1_3 : Int) (a1_4 : Int) (r : Bool) (w : World) (h : spec_l5Before.f a0_0 a0_1 a0_2 a0_3 a0_4 a1_0 a1_1 a1_2 a1_3 a1_4 = some r) :
 Calls Try.prog 40 #[.agg #[.int .i64 a0_0, .int .i64 a0_1, .int .i64 a0_2, .int .i64 a0_3, .int .i64 a0_4], .agg #[.int .i64 a1_0, .int .i64 a1_1, .int .i64 a1_2, .int .i64 a1_3, .int .i64 a1_4]] w fun e w' => e = .returned (.bool r) ∧ Below w.heap.size w w' := by
 have hu37 := Try.underlying37; have HB := Aside0.mk (Below.refl w.heap.size w); have H : ((spec_l4Before.f a0_0 a0_1 a1_0 a1_1).bind fun t111 => (if t111 = true then (some true) else (if a0_0 = a1_0 then (if a0_1 = a1_1 then (some (decide (a0_2 < a1_2))) else (some false)) else (some false)))) = some r := h; clear h; replace H := Option.bind_eq_some_iff.mp H; obtain ⟨t111, A30, H⟩ := H; have A3 := Aside0.mk A30; clear A30
 by_cases c4 : t111 = true
 ·
  subst c4; replace H := Eq.trans (if_pos rfl).symm H; obtain rfl := Option.some.inj H; go_enter Try.func40, Try.ntmps40
  go_wp2_with (first | ((with_reducible refine gate_dst (N := 2) rfl ?_); refine be_ 2 (cs := #[.int .i64 a0_0, .int .i64 a0_1, .int .i64 a0_2, .int .i64 a0_3, .int .i64 a0_4]) (t := 37) ?_; intro gb109 hg w5 hbox hb; have n_ := as4_ (below_step (bb_) hb) (hbox) ((gs_ hg : w.heap.size ≤ gb109)) ((gs_ hg : w.heap.size ≤ gb109)); clear HB; obtain ⟨HB, BK109, GW109, GE109⟩ := n_; clear hb hbox hg) | ((with_reducible refine gate_dst (N := 3) rfl ?_); refine be_ 3 (cs := #[.int .i64 a1_0, .int .i64 a1_1, .int .i64 a1_2, .int .i64 a1_3, .int .i64 a1_4]) (t := 37) ?_; intro gb110 hg w6 hbox hb; have n_ := as7_ (blk_below (g := gb109) (o := .cells #[.int .i64 a0_0, .int .i64 a0_1, .int .i64 a0_2, .int .i64 a0_3, .int .i64 a0_4] 37 (0, 0)) (pb_ BK109.out) hb) (below_step (bg_ GE109.out) hb) (hbox) ((by rw [hg]; exact (below_size (bg_ GE109.out)) : w.heap.size ≤ gb110)) ((by rw [hg]; exact (below_size (bg_ GE109.out)) : w.heap.size ≤ gb110)) ((by rw [hg]; exact Nat.ne_of_lt (blk_lt (g := gb109) (o := .cells #[.int .i64 a0_0, .int .i64 a0_1, .int .i64 a0_2, .int .i64 a0_3, .int .i64 a0_4] 37 (0, 0)) (pb_ BK109.out)) : gb109 ≠ gb110)) ((by rw [hg]; exact Nat.ne_of_gt (blk_lt (g := gb109) (o := .cells #[.int .i64 a0_0, .int .i64 a0_1, .int .i64 a0_2, .int .i64 a0_3, .int .i64 a0_4] 37 (0, 0)) (pb_ BK109.out)) : gb110 ≠ gb109)); clear BK109 HB; obtain ⟨BK109, HB, BK110, GW110, GE110, NB109_110, NB110_109⟩ := n_; clear hb hbox hg; have hnb7 := NB109_110.out; have hnc7 := NB110_109.out; obtain ⟨hcz8_0, hcz8_1, hcz8_2, hcz8_3, hcz8_4, hfz8_0, hfz8_1, hfz8_2, hfz8_3, hfz8_4⟩ := ce5_ BK109.out; obtain ⟨hcz9_0, hcz9_1, hcz9_2, hcz9_3, hcz9_4, hfz9_0, hfz9_1, hfz9_2, hfz9_3, hfz9_4⟩ := ce5_ BK110.out) | ((with_reducible refine gate_callee (f := 75) rfl ?_); refine goesL_ (some 13) rfl rfl Try.func75 kr_ rfl #[.int .i64 a0_0, .int .i64 a0_1, .int .i64 a1_0, .int .i64 a1_1] rfl (bc_) ?_; (with_reducible refine (spec_l4Before.calls a0_0 a0_1 a1_0 a1_1 true _ A3.out).mono ?_); rintro e w' ⟨rfl, ⟨nd, rfl⟩⟩; refine ⟨_, rfl, ?_⟩))
  go_ret; exact ⟨er_, bh_ GE109.out GE110.out⟩
 ·
  replace c4 := Bool.eq_false_iff.mpr c4; subst c4; replace H := Eq.trans (if_neg nf_).symm H
  by_cases c10 : a0_0 = a1_0
  ·
   rw [if_pos c10] at H; have c10b0 : (a0_0 == a1_0) = true := beq_iff_eq.mpr c10; have c10b1 : (a0_0 != a1_0) = false := bne_eq_false_iff_eq.mpr c10; clear c10
   by_cases c11 : a0_1 = a1_1
   ·
    rw [if_pos c11] at H; have c11b0 : (a0_1 == a1_1) = true := beq_iff_eq.mpr c11; have c11b1 : (a0_1 != a1_1) = false := bne_eq_false_iff_eq.mpr c11; clear c11; obtain rfl := Option.some.inj H; go_enter Try.func40, Try.ntmps40
    go_wp2_with (first | ((with_reducible refine gate_dst (N := 2) rfl ?_); refine be_ 2 (cs := #[.int .i64 a0_0, .int .i64 a0_1, .int .i64 a0_2, .int .i64 a0_3, .int .i64 a0_4]) (t := 37) ?_; intro gb109 hg w12 hbox hb; have n_ := as4_ (below_step (bb_) hb) (hbox) ((gs_ hg : w.heap.size ≤ gb109)) ((gs_ hg : w.heap.size ≤ gb109)); clear HB; obtain ⟨HB, BK109, GW109, GE109⟩ := n_; clear hb hbox hg) | ((with_reducible refine gate_dst (N := 3) rfl ?_); refine be_ 3 (cs := #[.int .i64 a1_0, .int .i64 a1_1, .int .i64 a1_2, .int .i64 a1_3, .int .i64 a1_4]) (t := 37) ?_; intro gb110 hg w13 hbox hb; have n_ := as7_ (blk_below (g := gb109) (o := .cells #[.int .i64 a0_0, .int .i64 a0_1, .int .i64 a0_2, .int .i64 a0_3, .int .i64 a0_4] 37 (0, 0)) (pb_ BK109.out) hb) (below_step (bg_ GE109.out) hb) (hbox) ((by rw [hg]; exact (below_size (bg_ GE109.out)) : w.heap.size ≤ gb110)) ((by rw [hg]; exact (below_size (bg_ GE109.out)) : w.heap.size ≤ gb110)) ((by rw [hg]; exact Nat.ne_of_lt (blk_lt (g := gb109) (o := .cells #[.int .i64 a0_0, .int .i64 a0_1, .int .i64 a0_2, .int .i64 a0_3, .int .i64 a0_4] 37 (0, 0)) (pb_ BK109.out)) : gb109 ≠ gb110)) ((by rw [hg]; exact Nat.ne_of_gt (blk_lt (g := gb109) (o := .cells #[.int .i64 a0_0, .int .i64 a0_1, .int .i64 a0_2, .int .i64 a0_3, .int .i64 a0_4] 37 (0, 0)) (pb_ BK109.out)) : gb110 ≠ gb109)); clear BK109 HB; obtain ⟨BK109, HB, BK110, GW110, GE110, NB109_110, NB110_109⟩ := n_; clear hb hbox hg; have hnb14 := NB109_110.out; have hnc14 := NB110_109.out; obtain ⟨hcz15_0, hcz15_1, hcz15_2, hcz15_3, hcz15_4, hfz15_0, hfz15_1, hfz15_2, hfz15_3, hfz15_4⟩ := ce5_ BK109.out; obtain ⟨hcz16_0, hcz16_1, hcz16_2, hcz16_3, hcz16_4, hfz16_0, hfz16_1, hfz16_2, hfz16_3, hfz16_4⟩ := ce5_ BK110.out) | ((with_reducible refine gate_callee (f := 75) rfl ?_); refine goesL_ (some 13) rfl rfl Try.func75 kr_ rfl #[.int .i64 a0_0, .int .i64 a0_1, .int .i64 a1_0, .int .i64 a1_1] rfl (bc_) ?_; (with_reducible refine (spec_l4Before.calls a0_0 a0_1 a1_0 a1_1 false _ A3.out).mono ?_); rintro e w' ⟨rfl, ⟨nd, rfl⟩⟩; refine ⟨_, rfl, ?_⟩))
    go_ret; exact ⟨er_, bh_ GE109.out GE110.out⟩
   ·
    rw [if_neg c11] at H; have c11b0 : (a0_1 == a1_1) = false := beq_eq_false_iff_ne.mpr c11; have c11b1 : (a0_1 != a1_1) = true := bne_iff_ne.mpr c11; obtain rfl := Option.some.inj H; go_enter Try.func40, Try.ntmps40
    go_wp2_with (first | ((with_reducible refine gate_dst (N := 2) rfl ?_); refine be_ 2 (cs := #[.int .i64 a0_0, .int .i64 a0_1, .int .i64 a0_2, .int .i64 a0_3, .int .i64 a0_4]) (t := 37) ?_; intro gb109 hg w17 hbox hb; have n_ := as4_ (below_step (bb_) hb) (hbox) ((gs_ hg : w.heap.size ≤ gb109)) ((gs_ hg : w.heap.size ≤ gb109)); clear HB; obtain ⟨HB, BK109, GW109, GE109⟩ := n_; clear hb hbox hg) | ((with_reducible refine gate_dst (N := 3) rfl ?_); refine be_ 3 (cs := #[.int .i64 a1_0, .int .i64 a1_1, .int .i64 a1_2, .int .i64 a1_3, .int .i64 a1_4]) (t := 37) ?_; intro gb110 hg w18 hbox hb; have n_ := as7_ (blk_below (g := gb109) (o := .cells #[.int .i64 a0_0, .int .i64 a0_1, .int .i64 a0_2, .int .i64 a0_3, .int .i64 a0_4] 37 (0, 0)) (pb_ BK109.out) hb) (below_step (bg_ GE109.out) hb) (hbox) ((by rw [hg]; exact (below_size (bg_ GE109.out)) : w.heap.size ≤ gb110)) ((by rw [hg]; exact (below_size (bg_ GE109.out)) : w.heap.size ≤ gb110)) ((by rw [hg]; exact Nat.ne_of_lt (blk_lt (g := gb109) (o := .cells #[.int .i64 a0_0, .int .i64 a0_1, .int .i64 a0_2, .int .i64 a0_3, .int .i64 a0_4] 37 (0, 0)) (pb_ BK109.out)) : gb109 ≠ gb110)) ((by rw [hg]; exact Nat.ne_of_gt (blk_lt (g := gb109) (o := .cells #[.int .i64 a0_0, .int .i64 a0_1, .int .i64 a0_2, .int .i64 a0_3, .int .i64 a0_4] 37 (0, 0)) (pb_ BK109.out)) : gb110 ≠ gb109)); clear BK109 HB; obtain ⟨BK109, HB, BK110, GW110, GE110, NB109_110, NB110_109⟩ := n_; clear hb hbox hg; have hnb19 := NB109_110.out; have hnc19 := NB110_109.out; obtain ⟨hcz20_0, hcz20_1, hcz20_2, hcz20_3, hcz20_4, hfz20_0, hfz20_1, hfz20_2, hfz20_3, hfz20_4⟩ := ce5_ BK109.out; obtain ⟨hcz21_0, hcz21_1, hcz21_2, hcz21_3, hcz21_4, hfz21_0, hfz21_1, hfz21_2, hfz21_3, hfz21_4⟩ := ce5_ BK110.out) | ((with_reducible refine gate_callee (f := 75) rfl ?_); refine goesL_ (some 13) rfl rfl Try.func75 kr_ rfl #[.int .i64 a0_0, .int .i64 a0_1, .int .i64 a1_0, .int .i64 a1_1] rfl (bc_) ?_; (with_reducible refine (spec_l4Before.calls a0_0 a0_1 a1_0 a1_1 false _ A3.out).mono ?_); rintro e w' ⟨rfl, ⟨nd, rfl⟩⟩; refine ⟨_, rfl, ?_⟩))
    go_ret; exact ⟨er_, bh_ GE109.out GE110.out⟩
  ·
   rw [if_neg c10] at H; have c10b0 : (a0_0 == a1_0) = false := beq_eq_false_iff_ne.mpr c10; have c10b1 : (a0_0 != a1_0) = true := bne_iff_ne.mpr c10; obtain rfl := Option.some.inj H; go_enter Try.func40, Try.ntmps40
   go_wp2_with (first | ((with_reducible refine gate_dst (N := 2) rfl ?_); refine be_ 2 (cs := #[.int .i64 a0_0, .int .i64 a0_1, .int .i64 a0_2, .int .i64 a0_3, .int .i64 a0_4]) (t := 37) ?_; intro gb109 hg w22 hbox hb; have n_ := as4_ (below_step (bb_) hb) (hbox) ((gs_ hg : w.heap.size ≤ gb109)) ((gs_ hg : w.heap.size ≤ gb109)); clear HB; obtain ⟨HB, BK109, GW109, GE109⟩ := n_; clear hb hbox hg) | ((with_reducible refine gate_dst (N := 3) rfl ?_); refine be_ 3 (cs := #[.int .i64 a1_0, .int .i64 a1_1, .int .i64 a1_2, .int .i64 a1_3, .int .i64 a1_4]) (t := 37) ?_; intro gb110 hg w23 hbox hb; have n_ := as7_ (blk_below (g := gb109) (o := .cells #[.int .i64 a0_0, .int .i64 a0_1, .int .i64 a0_2, .int .i64 a0_3, .int .i64 a0_4] 37 (0, 0)) (pb_ BK109.out) hb) (below_step (bg_ GE109.out) hb) (hbox) ((by rw [hg]; exact (below_size (bg_ GE109.out)) : w.heap.size ≤ gb110)) ((by rw [hg]; exact (below_size (bg_ GE109.out)) : w.heap.size ≤ gb110)) ((by rw [hg]; exact Nat.ne_of_lt (blk_lt (g := gb109) (o := .cells #[.int .i64 a0_0, .int .i64 a0_1, .int .i64 a0_2, .int .i64 a0_3, .int .i64 a0_4] 37 (0, 0)) (pb_ BK109.out)) : gb109 ≠ gb110)) ((by rw [hg]; exact Nat.ne_of_gt (blk_lt (g := gb109) (o := .cells #[.int .i64 a0_0, .int .i64 a0_1, .int .i64 a0_2, .int .i64 a0_3, .int .i64 a0_4] 37 (0, 0)) (pb_ BK109.out)) : gb110 ≠ gb109)); clear BK109 HB; obtain ⟨BK109, HB, BK110, GW110, GE110, NB109_110, NB110_109⟩ := n_; clear hb hbox hg; have hnb24 := NB109_110.out; have hnc24 := NB110_109.out; obtain ⟨hcz25_0, hcz25_1, hcz25_2, hcz25_3, hcz25_4, hfz25_0, hfz25_1, hfz25_2, hfz25_3, hfz25_4⟩ := ce5_ BK109.out; obtain ⟨hcz26_0, hcz26_1, hcz26_2, hcz26_3, hcz26_4, hfz26_0, hfz26_1, hfz26_2, hfz26_3, hfz26_4⟩ := ce5_ BK110.out) | ((with_reducible refine gate_callee (f := 75) rfl ?_); refine goesL_ (some 13) rfl rfl Try.func75 kr_ rfl #[.int .i64 a0_0, .int .i64 a0_1, .int .i64 a1_0, .int .i64 a1_1] rfl (bc_) ?_; (with_reducible refine (spec_l4Before.calls a0_0 a0_1 a1_0 a1_1 false _ A3.out).mono ?_); rintro e w' ⟨rfl, ⟨nd, rfl⟩⟩; refine ⟨_, rfl, ?_⟩))
   go_ret; exact ⟨er_, bh_ GE109.out GE110.out⟩
def spec_AmountOk.f (a0 : Int) : Option (Bool) := (spec_l1In.f a0 (-1000000000000000) 1000000000000000).bind fun t112 => (some t112)
set_option maxHeartbeats 8000000 in
set_option maxRecDepth 100000 in
theorem spec_AmountOk.calls (a0 : Int) (r : Bool) (w : World) (h : spec_AmountOk.f a0 = some r) :
 Calls Try.prog 41 #[.int .i64 a0] w fun e w' => e = .returned (.bool r) ∧ Drawn0 w w' := by
 have H : ((spec_l1In.f a0 (-1000000000000000) 1000000000000000).bind fun t112 => (some t112)) = some r := h; clear h; replace H := Option.bind_eq_some_iff.mp H; obtain ⟨t112, A20, H⟩ := H; have A2 := Aside0.mk A20; clear A20; obtain rfl := Option.some.inj H; go_enter Try.func41, Try.ntmps41; go_wp2_with (first | ((with_reducible refine gate_callee (f := 61) rfl ?_); refine goesL_ (some 4) rfl rfl Try.func61 kr_ rfl #[.int .i64 a0, .int .i64 (-1000000000000000), .int .i64 1000000000000000] rfl (bc_) ?_; (with_reducible refine (spec_l1In.calls a0 (-1000000000000000) 1000000000000000 t112 _ A2.out).mono ?_); rintro e w' ⟨rfl, ⟨nd, rfl⟩⟩; refine ⟨_, rfl, ?_⟩))
 go_ret; exact ⟨rs_, dr_⟩
end Go.Proofs.Ytomanpmffjkkgaa.P
namespace Go.Proofs.Ytomanpmffjkkgaa
section
open Go Go.RowKit Go.Proofs.YtomanpmffjkkgaaW.PrintWords Go.Proofs.YtomanpmffjkkgaaW.PrintLast Go.Proofs.YtomanpmffjkkgaaW.PrintMore
theorem cl_ {w W : World} {p : Addr} {v : Value} (hb : Below w.heap.size w W) (h : w.cell? p = some v) : W.cell? p = some v := (hb.cell (World.block_lt_of_cell? w _ h)).trans h
theorem cc_ {q p : Prop} (g : q) (h : q → p := by intro g_; repeat (first | exact g_ | (with_reducible refine Kd.C_alloc ?_ _) | (with_reducible refine Kd.C_drewN ?_ _) | (with_reducible refine Kd.C_drew ?_))) : p := h g
theorem as2_ {p0 p1 : Prop} (x0 : p0) (x1 : p1) : Aside0 p0 ∧ Aside0 p1 := ⟨⟨x0⟩, ⟨x1⟩⟩
end
end Go.Proofs.Ytomanpmffjkkgaa
namespace Go.Proofs.Ytomanpmffjkkgaa.P
open Go.RowKit Go.Proofs.YtomanpmffjkkgaaW.PrintWords Go.Proofs.YtomanpmffjkkgaaW.PrintLast Go.Proofs.YtomanpmffjkkgaaW.PrintMore
attribute [local go_sem] max2_int min2_int max_two min_two max_three min_three max_four min_four   -- for this text's walks alone
set_option linter.unusedVariables false
set_option linter.unusedSimpArgs false
def impl_in.f (a0 : Int) (a1 : Int) (a2 : Int) : Option (Bool) := if a0 ≥ a1 then (some (decide (a0 ≤ a2))) else (some false)
set_option maxHeartbeats 8000000 in
set_option maxRecDepth 100000 in
theorem impl_in.calls (a0 : Int) (a1 : Int) (a2 : Int) (r : Bool) (w : World) (h : impl_in.f a0 a1 a2 = some r) :
 Calls Try.prog 65 #[.int .i64 a0, .int .i64 a1, .int .i64 a2] w fun e w' => e = .returned (.bool r) ∧ Drawn0 w w' := by
 have H : (if a0 ≥ a1 then (some (decide (a0 ≤ a2))) else (some false)) = some r := h; clear h
 by_cases c4 : a0 ≥ a1
 ·
  rw [if_pos c4] at H; have c4b0 : decide (a1 ≤ a0) = true := decide_eq_true c4; clear c4; obtain rfl := Option.some.inj H; go_enter Try.func65, Try.ntmps65; go_wp2; go_ret; exact ⟨rs_, dr_⟩
 ·
  rw [if_neg c4] at H; have c4b0 : decide (a1 ≤ a0) = false := decide_eq_false c4; clear c4; obtain rfl := Option.some.inj H; go_enter Try.func65, Try.ntmps65; go_wp2; go_ret; exact ⟨rs_, dr_⟩
def impl_isNo.f (a0 : Int) : Option (Bool) := (impl_in.f a0 1 1000).bind fun t135 => (some t135)
set_option maxHeartbeats 8000000 in
set_option maxRecDepth 100000 in
theorem impl_isNo.calls (a0 : Int) (r : Bool) (w : World) (h : impl_isNo.f a0 = some r) :
 Calls Try.prog 76 #[.int .i64 a0] w fun e w' => e = .returned (.bool r) ∧ Drawn0 w w' := by
 have H : ((impl_in.f a0 1 1000).bind fun t135 => (some t135)) = some r := h; clear h; replace H := Option.bind_eq_some_iff.mp H; obtain ⟨t135, A20, H⟩ := H; have A2 := Aside0.mk A20; clear A20; obtain rfl := Option.some.inj H; go_enter Try.func76, Try.ntmps76; go_wp2_with (first | ((with_reducible refine gate_callee (f := 65) rfl ?_); refine goesL_ (some 4) rfl rfl Try.func65 kr_ rfl #[.int .i64 a0, .int .i64 1, .int .i64 1000] rfl (bc_) ?_; (with_reducible refine (impl_in.calls a0 1 1000 t135 _ A2.out).mono ?_); rintro e w' ⟨rfl, ⟨nd, rfl⟩⟩; refine ⟨_, rfl, ?_⟩))
 go_ret; exact ⟨rs_, dr_⟩
def impl_lotForm.f (a0_0 : Int) (a0_1 : Int) (a0_2 : Int) (a0_3 : Int) (a0_4 : Int) : Option (Bool) := (impl_isNo.f a0_0).bind fun t137 => (if t137 = true then ((impl_isNo.f a0_1).bind fun t138 => (if t138 = true then ((impl_in.f a0_2 1 1000000000).bind fun t139 => (if t139 = true then ((impl_in.f a0_3 1 1000000000000000).bind fun t140 => (if t140 = true then ((impl_in.f a0_4 0 1000000000000000).bind fun t141 => (some t141)) else (some false))) else (some false))) else (some false))) else (some false))
set_option maxHeartbeats 8000000 in
set_option maxRecDepth 100000 in
theorem impl_lotForm.calls (a0_0 : Int) (a0_1 : Int) (a0_2 : Int) (a0_3 : Int) (a0_4 : Int) (r : Bool) (w : World) (h : impl_lotForm.f a0_0 a0_1 a0_2 a0_3 a0_4 = some r) :
 Calls Try.prog 42 #[.agg #[.int .i64 a0_0, .int .i64 a0_1, .int .i64 a0_2, .int .i64 a0_3, .int .i64 a0_4]] w fun e w' => e = .returned (.bool r) ∧ Below w.heap.size w w' := by
 have hu37 := Try.underlying37; have HB := Aside0.mk (Below.refl w.heap.size w); have H : ((impl_isNo.f a0_0).bind fun t137 => (if t137 = true then ((impl_isNo.f a0_1).bind fun t138 => (if t138 = true then ((impl_in.f a0_2 1 1000000000).bind fun t139 => (if t139 = true then ((impl_in.f a0_3 1 1000000000000000).bind fun t140 => (if t140 = true then ((impl_in.f a0_4 0 1000000000000000).bind fun t141 => (some t141)) else (some false))) else (some false))) else (some false))) else (some false))) = some r := h; clear h; replace H := Option.bind_eq_some_iff.mp H; obtain ⟨t137, A20, H⟩ := H; have A2 := Aside0.mk A20; clear A20
 by_cases c3 : t137 = true
 ·
  subst c3; replace H := Eq.trans (if_pos rfl).symm H; replace H := Option.bind_eq_some_iff.mp H; obtain ⟨t138, A40, H⟩ := H; have A4 := Aside0.mk A40; clear A40
  by_cases c5 : t138 = true
  ·
   subst c5; replace H := Eq.trans (if_pos rfl).symm H; replace H := Option.bind_eq_some_iff.mp H; obtain ⟨t139, A60, H⟩ := H; have A6 := Aside0.mk A60; clear A60
   by_cases c7 : t139 = true
   ·
    subst c7; replace H := Eq.trans (if_pos rfl).symm H; replace H := Option.bind_eq_some_iff.mp H; obtain ⟨t140, A80, H⟩ := H; have A8 := Aside0.mk A80; clear A80
    by_cases c9 : t140 = true
    ·
     subst c9; replace H := Eq.trans (if_pos rfl).symm H; replace H := Option.bind_eq_some_iff.mp H; obtain ⟨t141, A100, H⟩ := H; have A10 := Aside0.mk A100; clear A100; obtain rfl := Option.some.inj H; go_enter Try.func42, Try.ntmps42
     go_wp2_with (first | ((with_reducible refine gate_dst (N := 1) rfl ?_); refine be_ 1 (cs := #[.int .i64 a0_0, .int .i64 a0_1, .int .i64 a0_2, .int .i64 a0_3, .int .i64 a0_4]) (t := 37) ?_; intro gb136 hg w11 hbox hb; have n_ := as4_ (below_step (bb_) hb) (hbox) ((gs_ hg : w.heap.size ≤ gb136)) ((gs_ hg : w.heap.size ≤ gb136)); clear HB; obtain ⟨HB, BK136, GW136, GE136⟩ := n_; clear hb hbox hg; obtain ⟨hcz12_0, hcz12_1, hcz12_2, hcz12_3, hcz12_4, hfz12_0, hfz12_1, hfz12_2, hfz12_3, hfz12_4⟩ := ce5_ BK136.out) | ((with_reducible refine gate_callee (f := 76) rfl ?_); refine goesL_ (some 5) rfl rfl Try.func76 kr_ rfl #[.int .i64 a0_0] rfl (bc_) ?_; (with_reducible refine (impl_isNo.calls a0_0 true _ A2.out).mono ?_); rintro e w' ⟨rfl, ⟨nd, rfl⟩⟩; refine ⟨_, rfl, ?_⟩) | (go_at_call 76; (with_reducible refine (impl_isNo.calls a0_1 true _ A4.out).mono ?_); rintro e w' ⟨rfl, ⟨nd, rfl⟩⟩) | (go_at_call 65; (with_reducible refine (impl_in.calls a0_2 1 1000000000 true _ A6.out).mono ?_); rintro e w' ⟨rfl, ⟨nd, rfl⟩⟩) | (go_at_call 65; (with_reducible refine (impl_in.calls a0_3 1 1000000000000000 true _ A8.out).mono ?_); rintro e w' ⟨rfl, ⟨nd, rfl⟩⟩) | (go_at_call 65; (with_reducible refine (impl_in.calls a0_4 0 1000000000000000 t141 _ A10.out).mono ?_); rintro e w' ⟨rfl, ⟨nd, rfl⟩⟩))
     go_ret; exact ⟨er_, bg_ GE136.out⟩
    ·
     replace c9 := Bool.eq_false_iff.mpr c9; subst c9; replace H := Eq.trans (if_neg nf_).symm H; obtain rfl := Option.some.inj H; go_enter Try.func42, Try.ntmps42; go_wp2_with (first | ((with_reducible refine gate_dst (N := 1) rfl ?_); refine be_ 1 (cs := #[.int .i64 a0_0, .int .i64 a0_1, .int .i64 a0_2, .int .i64 a0_3, .int .i64 a0_4]) (t := 37) ?_; intro gb136 hg w13 hbox hb; have n_ := as4_ (below_step (bb_) hb) (hbox) ((gs_ hg : w.heap.size ≤ gb136)) ((gs_ hg : w.heap.size ≤ gb136)); clear HB; obtain ⟨HB, BK136, GW136, GE136⟩ := n_; clear hb hbox hg; obtain ⟨hcz14_0, hcz14_1, hcz14_2, hcz14_3, hcz14_4, hfz14_0, hfz14_1, hfz14_2, hfz14_3, hfz14_4⟩ := ce5_ BK136.out) | ((with_reducible refine gate_callee (f := 76) rfl ?_); refine goesL_ (some 5) rfl rfl Try.func76 kr_ rfl #[.int .i64 a0_0] rfl (bc_) ?_; (with_reducible refine (impl_isNo.calls a0_0 true _ A2.out).mono ?_); rintro e w' ⟨rfl, ⟨nd, rfl⟩⟩; refine ⟨_, rfl, ?_⟩) | (go_at_call 76; (with_reducible refine (impl_isNo.calls a0_1 true _ A4.out).mono ?_); rintro e w' ⟨rfl, ⟨nd, rfl⟩⟩) | (go_at_call 65; (with_reducible refine (impl_in.calls a0_2 1 1000000000 true _ A6.out).mono ?_); rintro e w' ⟨rfl, ⟨nd, rfl⟩⟩) | (go_at_call 65; (with_reducible refine (impl_in.calls a0_3 1 1000000000000000 false _ A8.out).mono ?_); rintro e w' ⟨rfl, ⟨nd, rfl⟩⟩))
     go_ret; exact ⟨er_, bg_ GE136.out⟩
   ·
    replace c7 := Bool.eq_false_iff.mpr c7; subst c7; replace H := Eq.trans (if_neg nf_).symm H; obtain rfl := Option.some.inj H; go_enter Try.func42, Try.ntmps42; go_wp2_with (first | ((with_reducible refine gate_dst (N := 1) rfl ?_); refine be_ 1 (cs := #[.int .i64 a0_0, .int .i64 a0_1, .int .i64 a0_2, .int .i64 a0_3, .int .i64 a0_4]) (t := 37) ?_; intro gb136 hg w15 hbox hb; have n_ := as4_ (below_step (bb_) hb) (hbox) ((gs_ hg : w.heap.size ≤ gb136)) ((gs_ hg : w.heap.size ≤ gb136)); clear HB; obtain ⟨HB, BK136, GW136, GE136⟩ := n_; clear hb hbox hg; obtain ⟨hcz16_0, hcz16_1, hcz16_2, hcz16_3, hcz16_4, hfz16_0, hfz16_1, hfz16_2, hfz16_3, hfz16_4⟩ := ce5_ BK136.out) | ((with_reducible refine gate_callee (f := 76) rfl ?_); refine goesL_ (some 5) rfl rfl Try.func76 kr_ rfl #[.int .i64 a0_0] rfl (bc_) ?_; (with_reducible refine (impl_isNo.calls a0_0 true _ A2.out).mono ?_); rintro e w' ⟨rfl, ⟨nd, rfl⟩⟩; refine ⟨_, rfl, ?_⟩) | (go_at_call 76; (with_reducible refine (impl_isNo.calls a0_1 true _ A4.out).mono ?_); rintro e w' ⟨rfl, ⟨nd, rfl⟩⟩) | (go_at_call 65; (with_reducible refine (impl_in.calls a0_2 1 1000000000 false _ A6.out).mono ?_); rintro e w' ⟨rfl, ⟨nd, rfl⟩⟩))
    go_ret; exact ⟨er_, bg_ GE136.out⟩
  ·
   replace c5 := Bool.eq_false_iff.mpr c5; subst c5; replace H := Eq.trans (if_neg nf_).symm H; obtain rfl := Option.some.inj H; go_enter Try.func42, Try.ntmps42; go_wp2_with (first | ((with_reducible refine gate_dst (N := 1) rfl ?_); refine be_ 1 (cs := #[.int .i64 a0_0, .int .i64 a0_1, .int .i64 a0_2, .int .i64 a0_3, .int .i64 a0_4]) (t := 37) ?_; intro gb136 hg w17 hbox hb; have n_ := as4_ (below_step (bb_) hb) (hbox) ((gs_ hg : w.heap.size ≤ gb136)) ((gs_ hg : w.heap.size ≤ gb136)); clear HB; obtain ⟨HB, BK136, GW136, GE136⟩ := n_; clear hb hbox hg; obtain ⟨hcz18_0, hcz18_1, hcz18_2, hcz18_3, hcz18_4, hfz18_0, hfz18_1, hfz18_2, hfz18_3, hfz18_4⟩ := ce5_ BK136.out) | ((with_reducible refine gate_callee (f := 76) rfl ?_); refine goesL_ (some 5) rfl rfl Try.func76 kr_ rfl #[.int .i64 a0_0] rfl (bc_) ?_; (with_reducible refine (impl_isNo.calls a0_0 true _ A2.out).mono ?_); rintro e w' ⟨rfl, ⟨nd, rfl⟩⟩; refine ⟨_, rfl, ?_⟩) | (go_at_call 76; (with_reducible refine (impl_isNo.calls a0_1 false _ A4.out).mono ?_); rintro e w' ⟨rfl, ⟨nd, rfl⟩⟩))
   go_ret; exact ⟨er_, bg_ GE136.out⟩
 ·
  replace c3 := Bool.eq_false_iff.mpr c3; subst c3; replace H := Eq.trans (if_neg nf_).symm H; obtain rfl := Option.some.inj H; go_enter Try.func42, Try.ntmps42; go_wp2_with (first | ((with_reducible refine gate_dst (N := 1) rfl ?_); refine be_ 1 (cs := #[.int .i64 a0_0, .int .i64 a0_1, .int .i64 a0_2, .int .i64 a0_3, .int .i64 a0_4]) (t := 37) ?_; intro gb136 hg w19 hbox hb; have n_ := as4_ (below_step (bb_) hb) (hbox) ((gs_ hg : w.heap.size ≤ gb136)) ((gs_ hg : w.heap.size ≤ gb136)); clear HB; obtain ⟨HB, BK136, GW136, GE136⟩ := n_; clear hb hbox hg; obtain ⟨hcz20_0, hcz20_1, hcz20_2, hcz20_3, hcz20_4, hfz20_0, hfz20_1, hfz20_2, hfz20_3, hfz20_4⟩ := ce5_ BK136.out) | ((with_reducible refine gate_callee (f := 76) rfl ?_); refine goesL_ (some 5) rfl rfl Try.func76 kr_ rfl #[.int .i64 a0_0] rfl (bc_) ?_; (with_reducible refine (impl_isNo.calls a0_0 false _ A2.out).mono ?_); rintro e w' ⟨rfl, ⟨nd, rfl⟩⟩; refine ⟨_, rfl, ?_⟩))
  go_ret; exact ⟨er_, bg_ GE136.out⟩
def impl_byBoth.j0 : Nat → Int → Int → Int → Int → Bool → Option (Int)
 | 0, _, _, _, _, _ => none
 | k + 1, x0, x1, x2, x3, x9 => if x9 = true then (some (-1)) else (if x0 = x2 then (if x1 = x3 then (some 0) else (some 1)) else (some 1))
def impl_byBoth.f (k : Nat) (a0 : Int) (a1 : Int) (a2 : Int) (a3 : Int) : Option (Int) := if a0 < a2 then (impl_byBoth.j0 k a0 a1 a2 a3 true) else (if a0 = a2 then (impl_byBoth.j0 k a0 a1 a2 a3 (decide (a1 < a3))) else (impl_byBoth.j0 k a0 a1 a2 a3 false))
set_option maxHeartbeats 8000000 in
set_option maxRecDepth 100000 in
theorem impl_byBoth.calls (k : Nat) (a0 : Int) (a1 : Int) (a2 : Int) (a3 : Int) (r : Int) (w : World) (h : impl_byBoth.f k a0 a1 a2 a3 = some r) :
 Calls Try.prog 77 #[.int .i64 a0, .int .i64 a1, .int .i64 a2, .int .i64 a3] w fun e w' => e = .returned (.int .i64 r) ∧ Drawn0 w w' := by
 have H : (if a0 < a2 then (impl_byBoth.j0 k a0 a1 a2 a3 true) else (if a0 = a2 then (impl_byBoth.j0 k a0 a1 a2 a3 (decide (a1 < a3))) else (impl_byBoth.j0 k a0 a1 a2 a3 false))) = some r := h; clear h; have HC5 := Aside0.mk H; clear H; go_enter Try.func77, Try.ntmps77; go_upto_region 1 with (fail)
 go_cut [9] (fun v9 wc => ∃ (kq : Nat) (x9_4 : Bool), v9 = .bool x9_4 ∧ Aside0 (impl_byBoth.j0 kq a0 a1 a2 a3 x9_4 = some r) ∧ Aside0 (kq ≤ k) ∧ Drawn0 w wc)
 case first =>
  have H := HC5.out; clear HC5
  by_cases c6 : a0 < a2
  ·
   rw [if_pos c6] at H; have c6b0 : decide (a0 < a2) = true := decide_eq_true c6; clear c6; (first | rw [c6b0] | (simp only [i64_w, i32_w]; rw [c6b0]) | skip)
   have H' := Aside0.mk H; clear H; go_wp2; go_meet
   case rel => exact ⟨_, (true), (rs_), H', ⟨le_⟩, dr_⟩
  ·
   rw [if_neg c6] at H; have c6b0 : decide (a0 < a2) = false := decide_eq_false c6; clear c6; (first | rw [c6b0] | (simp only [i64_w, i32_w]; rw [c6b0]) | skip)
   by_cases c7 : a0 = a2
   ·
    rw [if_pos c7] at H; have c7b0 : (a0 == a2) = true := beq_iff_eq.mpr c7; have c7b1 : (a0 != a2) = false := bne_eq_false_iff_eq.mpr c7; clear c7; have H' := Aside0.mk H; clear H; go_wp2; go_meet
    case rel => exact ⟨_, (decide (a1 < a3)), (rs_), H', ⟨le_⟩, dr_⟩
   ·
    rw [if_neg c7] at H; have c7b0 : (a0 == a2) = false := beq_eq_false_iff_ne.mpr c7; have c7b1 : (a0 != a2) = true := bne_iff_ne.mpr c7; have H' := Aside0.mk H; clear H; go_wp2; go_meet
    case rel => exact ⟨_, (false), (rs_), H', ⟨le_⟩, dr_⟩
 case rest =>
  clear HC5; try clear p2
  try clear c6b0
  try clear c7b0
  try clear c7b1
  obtain ⟨kq, x9_4, rfl, HA, HJ4, ⟨mc4, rfl⟩⟩ := hcut
  cases kq with
  | zero => exact absurd HA.out (by simp [impl_byBoth.j0])
  | succ kj4 =>
   have H := HA.out; clear HA; simp only [impl_byBoth.j0] at H
   by_cases c8 : x9_4 = true
   ·
    subst c8; replace H := Eq.trans (if_pos rfl).symm H; obtain rfl := Option.some.inj H; go_wp2; go_ret; exact ⟨rs_, dr_⟩
   ·
    replace c8 := Bool.eq_false_iff.mpr c8; subst c8; replace H := Eq.trans (if_neg nf_).symm H
    by_cases c9 : a0 = a2
    ·
     rw [if_pos c9] at H; have c9b0 : (a0 == a2) = true := beq_iff_eq.mpr c9; have c9b1 : (a0 != a2) = false := bne_eq_false_iff_eq.mpr c9; clear c9
     by_cases c10 : a1 = a3
     ·
      rw [if_pos c10] at H; have c10b0 : (a1 == a3) = true := beq_iff_eq.mpr c10; have c10b1 : (a1 != a3) = false := bne_eq_false_iff_eq.mpr c10; clear c10; obtain rfl := Option.some.inj H; go_wp2; go_ret; exact ⟨rs_, dr_⟩
     ·
      rw [if_neg c10] at H; have c10b0 : (a1 == a3) = false := beq_eq_false_iff_ne.mpr c10; have c10b1 : (a1 != a3) = true := bne_iff_ne.mpr c10; obtain rfl := Option.some.inj H; go_wp2; go_ret; exact ⟨rs_, dr_⟩
    ·
     rw [if_neg c9] at H; have c9b0 : (a0 == a2) = false := beq_eq_false_iff_ne.mpr c9; have c9b1 : (a0 != a2) = true := bne_iff_ne.mpr c9; obtain rfl := Option.some.inj H; go_wp2; go_ret; exact ⟨rs_, dr_⟩
def impl_lotBefore.f (k : Nat) (a0_0 : Int) (a0_1 : Int) (a0_2 : Int) (a0_3 : Int) (a0_4 : Int) (a1_0 : Int) (a1_1 : Int) (a1_2 : Int) (a1_3 : Int) (a1_4 : Int) : Option (Int) := (impl_byBoth.f k a0_0 a0_1 a1_0 a1_1).bind fun t144 => (if t144 = 0 then (if a0_2 < a1_2 then (some (-1)) else (if a0_2 > a1_2 then (some 1) else (some 0))) else (some t144))
set_option maxHeartbeats 8000000 in
set_option maxRecDepth 100000 in
theorem impl_lotBefore.calls (k : Nat) (a0_0 : Int) (a0_1 : Int) (a0_2 : Int) (a0_3 : Int) (a0_4 : Int) (a1_0 : Int) (a1_1 : Int) (a1_2 : Int) (a1_3 : Int) (a1_4 : Int) (r : Int) (w : World) (h : impl_lotBefore.f k a0_0 a0_1 a0_2 a0_3 a0_4 a1_0 a1_1 a1_2 a1_3 a1_4 = some r) :
 Calls Try.prog 43 #[.agg #[.int .i64 a0_0, .int .i64 a0_1, .int .i64 a0_2, .int .i64 a0_3, .int .i64 a0_4], .agg #[.int .i64 a1_0, .int .i64 a1_1, .int .i64 a1_2, .int .i64 a1_3, .int .i64 a1_4]] w fun e w' => e = .returned (.int .i64 r) ∧ Below w.heap.size w w' := by
 have hu37 := Try.underlying37; have HB := Aside0.mk (Below.refl w.heap.size w); have H : ((impl_byBoth.f k a0_0 a0_1 a1_0 a1_1).bind fun t144 => (if t144 = 0 then (if a0_2 < a1_2 then (some (-1)) else (if a0_2 > a1_2 then (some 1) else (some 0))) else (some t144))) = some r := h; clear h; replace H := Option.bind_eq_some_iff.mp H; obtain ⟨t144, A30, H⟩ := H; have A3 := Aside0.mk A30; clear A30
 by_cases c4 : t144 = 0
 ·
  rw [if_pos c4] at H; have c4b0 : (t144 == 0) = true := beq_iff_eq.mpr c4; have c4b1 : (t144 != 0) = false := bne_eq_false_iff_eq.mpr c4; clear c4
  by_cases c5 : a0_2 < a1_2
  ·
   rw [if_pos c5] at H; have c5b0 : decide (a0_2 < a1_2) = true := decide_eq_true c5; clear c5; obtain rfl := Option.some.inj H; go_enter Try.func43, Try.ntmps43
   go_wp2_with (first | ((with_reducible refine gate_dst (N := 2) rfl ?_); refine be_ 2 (cs := #[.int .i64 a0_0, .int .i64 a0_1, .int .i64 a0_2, .int .i64 a0_3, .int .i64 a0_4]) (t := 37) ?_; intro gb142 hg w6 hbox hb; have n_ := as4_ (below_step (bb_) hb) (hbox) ((gs_ hg : w.heap.size ≤ gb142)) ((gs_ hg : w.heap.size ≤ gb142)); clear HB; obtain ⟨HB, BK142, GW142, GE142⟩ := n_; clear hb hbox hg) | ((with_reducible refine gate_dst (N := 3) rfl ?_); refine be_ 3 (cs := #[.int .i64 a1_0, .int .i64 a1_1, .int .i64 a1_2, .int .i64 a1_3, .int .i64 a1_4]) (t := 37) ?_; intro gb143 hg w7 hbox hb; have n_ := as7_ (blk_below (g := gb142) (o := .cells #[.int .i64 a0_0, .int .i64 a0_1, .int .i64 a0_2, .int .i64 a0_3, .int .i64 a0_4] 37 (0, 0)) (pb_ BK142.out) hb) (below_step (bg_ GE142.out) hb) (hbox) ((by rw [hg]; exact (below_size (bg_ GE142.out)) : w.heap.size ≤ gb143)) ((by rw [hg]; exact (below_size (bg_ GE142.out)) : w.heap.size ≤ gb143)) ((by rw [hg]; exact Nat.ne_of_lt (blk_lt (g := gb142) (o := .cells #[.int .i64 a0_0, .int .i64 a0_1, .int .i64 a0_2, .int .i64 a0_3, .int .i64 a0_4] 37 (0, 0)) (pb_ BK142.out)) : gb142 ≠ gb143)) ((by rw [hg]; exact Nat.ne_of_gt (blk_lt (g := gb142) (o := .cells #[.int .i64 a0_0, .int .i64 a0_1, .int .i64 a0_2, .int .i64 a0_3, .int .i64 a0_4] 37 (0, 0)) (pb_ BK142.out)) : gb143 ≠ gb142)); clear BK142 HB; obtain ⟨BK142, HB, BK143, GW143, GE143, NB142_143, NB143_142⟩ := n_; clear hb hbox hg; have hnb8 := NB142_143.out; have hnc8 := NB143_142.out; obtain ⟨hcz9_0, hcz9_1, hcz9_2, hcz9_3, hcz9_4, hfz9_0, hfz9_1, hfz9_2, hfz9_3, hfz9_4⟩ := ce5_ BK142.out; obtain ⟨hcz10_0, hcz10_1, hcz10_2, hcz10_3, hcz10_4, hfz10_0, hfz10_1, hfz10_2, hfz10_3, hfz10_4⟩ := ce5_ BK143.out) | ((with_reducible refine gate_callee (f := 77) rfl ?_); refine goesL_ (some 14) rfl rfl Try.func77 kr_ rfl #[.int .i64 a0_0, .int .i64 a0_1, .int .i64 a1_0, .int .i64 a1_1] rfl (bc_) ?_; (with_reducible refine (impl_byBoth.calls k a0_0 a0_1 a1_0 a1_1 t144 _ A3.out).mono ?_); rintro e w' ⟨rfl, ⟨nd, rfl⟩⟩; refine ⟨_, rfl, ?_⟩))
   go_ret; exact ⟨er_, bh_ GE142.out GE143.out⟩
  ·
   rw [if_neg c5] at H; have c5b0 : decide (a0_2 < a1_2) = false := decide_eq_false c5; clear c5
   by_cases c11 : a0_2 > a1_2
   ·
    rw [if_pos c11] at H; have c11b0 : decide (a1_2 < a0_2) = true := decide_eq_true c11; clear c11; obtain rfl := Option.some.inj H; go_enter Try.func43, Try.ntmps43
    go_wp2_with (first | ((with_reducible refine gate_dst (N := 2) rfl ?_); refine be_ 2 (cs := #[.int .i64 a0_0, .int .i64 a0_1, .int .i64 a0_2, .int .i64 a0_3, .int .i64 a0_4]) (t := 37) ?_; intro gb142 hg w12 hbox hb; have n_ := as4_ (below_step (bb_) hb) (hbox) ((gs_ hg : w.heap.size ≤ gb142)) ((gs_ hg : w.heap.size ≤ gb142)); clear HB; obtain ⟨HB, BK142, GW142, GE142⟩ := n_; clear hb hbox hg) | ((with_reducible refine gate_dst (N := 3) rfl ?_); refine be_ 3 (cs := #[.int .i64 a1_0, .int .i64 a1_1, .int .i64 a1_2, .int .i64 a1_3, .int .i64 a1_4]) (t := 37) ?_; intro gb143 hg w13 hbox hb; have n_ := as7_ (blk_below (g := gb142) (o := .cells #[.int .i64 a0_0, .int .i64 a0_1, .int .i64 a0_2, .int .i64 a0_3, .int .i64 a0_4] 37 (0, 0)) (pb_ BK142.out) hb) (below_step (bg_ GE142.out) hb) (hbox) ((by rw [hg]; exact (below_size (bg_ GE142.out)) : w.heap.size ≤ gb143)) ((by rw [hg]; exact (below_size (bg_ GE142.out)) : w.heap.size ≤ gb143)) ((by rw [hg]; exact Nat.ne_of_lt (blk_lt (g := gb142) (o := .cells #[.int .i64 a0_0, .int .i64 a0_1, .int .i64 a0_2, .int .i64 a0_3, .int .i64 a0_4] 37 (0, 0)) (pb_ BK142.out)) : gb142 ≠ gb143)) ((by rw [hg]; exact Nat.ne_of_gt (blk_lt (g := gb142) (o := .cells #[.int .i64 a0_0, .int .i64 a0_1, .int .i64 a0_2, .int .i64 a0_3, .int .i64 a0_4] 37 (0, 0)) (pb_ BK142.out)) : gb143 ≠ gb142)); clear BK142 HB; obtain ⟨BK142, HB, BK143, GW143, GE143, NB142_143, NB143_142⟩ := n_; clear hb hbox hg; have hnb14 := NB142_143.out; have hnc14 := NB143_142.out; obtain ⟨hcz15_0, hcz15_1, hcz15_2, hcz15_3, hcz15_4, hfz15_0, hfz15_1, hfz15_2, hfz15_3, hfz15_4⟩ := ce5_ BK142.out; obtain ⟨hcz16_0, hcz16_1, hcz16_2, hcz16_3, hcz16_4, hfz16_0, hfz16_1, hfz16_2, hfz16_3, hfz16_4⟩ := ce5_ BK143.out) | ((with_reducible refine gate_callee (f := 77) rfl ?_); refine goesL_ (some 14) rfl rfl Try.func77 kr_ rfl #[.int .i64 a0_0, .int .i64 a0_1, .int .i64 a1_0, .int .i64 a1_1] rfl (bc_) ?_; (with_reducible refine (impl_byBoth.calls k a0_0 a0_1 a1_0 a1_1 t144 _ A3.out).mono ?_); rintro e w' ⟨rfl, ⟨nd, rfl⟩⟩; refine ⟨_, rfl, ?_⟩))
    go_ret; exact ⟨er_, bh_ GE142.out GE143.out⟩
   ·
    rw [if_neg c11] at H; have c11b0 : decide (a1_2 < a0_2) = false := decide_eq_false c11; clear c11; obtain rfl := Option.some.inj H; go_enter Try.func43, Try.ntmps43
    go_wp2_with (first | ((with_reducible refine gate_dst (N := 2) rfl ?_); refine be_ 2 (cs := #[.int .i64 a0_0, .int .i64 a0_1, .int .i64 a0_2, .int .i64 a0_3, .int .i64 a0_4]) (t := 37) ?_; intro gb142 hg w17 hbox hb; have n_ := as4_ (below_step (bb_) hb) (hbox) ((gs_ hg : w.heap.size ≤ gb142)) ((gs_ hg : w.heap.size ≤ gb142)); clear HB; obtain ⟨HB, BK142, GW142, GE142⟩ := n_; clear hb hbox hg) | ((with_reducible refine gate_dst (N := 3) rfl ?_); refine be_ 3 (cs := #[.int .i64 a1_0, .int .i64 a1_1, .int .i64 a1_2, .int .i64 a1_3, .int .i64 a1_4]) (t := 37) ?_; intro gb143 hg w18 hbox hb; have n_ := as7_ (blk_below (g := gb142) (o := .cells #[.int .i64 a0_0, .int .i64 a0_1, .int .i64 a0_2, .int .i64 a0_3, .int .i64 a0_4] 37 (0, 0)) (pb_ BK142.out) hb) (below_step (bg_ GE142.out) hb) (hbox) ((by rw [hg]; exact (below_size (bg_ GE142.out)) : w.heap.size ≤ gb143)) ((by rw [hg]; exact (below_size (bg_ GE142.out)) : w.heap.size ≤ gb143)) ((by rw [hg]; exact Nat.ne_of_lt (blk_lt (g := gb142) (o := .cells #[.int .i64 a0_0, .int .i64 a0_1, .int .i64 a0_2, .int .i64 a0_3, .int .i64 a0_4] 37 (0, 0)) (pb_ BK142.out)) : gb142 ≠ gb143)) ((by rw [hg]; exact Nat.ne_of_gt (blk_lt (g := gb142) (o := .cells #[.int .i64 a0_0, .int .i64 a0_1, .int .i64 a0_2, .int .i64 a0_3, .int .i64 a0_4] 37 (0, 0)) (pb_ BK142.out)) : gb143 ≠ gb142)); clear BK142 HB; obtain ⟨BK142, HB, BK143, GW143, GE143, NB142_143, NB143_142⟩ := n_; clear hb hbox hg; have hnb19 := NB142_143.out; have hnc19 := NB143_142.out; obtain ⟨hcz20_0, hcz20_1, hcz20_2, hcz20_3, hcz20_4, hfz20_0, hfz20_1, hfz20_2, hfz20_3, hfz20_4⟩ := ce5_ BK142.out; obtain ⟨hcz21_0, hcz21_1, hcz21_2, hcz21_3, hcz21_4, hfz21_0, hfz21_1, hfz21_2, hfz21_3, hfz21_4⟩ := ce5_ BK143.out) | ((with_reducible refine gate_callee (f := 77) rfl ?_); refine goesL_ (some 14) rfl rfl Try.func77 kr_ rfl #[.int .i64 a0_0, .int .i64 a0_1, .int .i64 a1_0, .int .i64 a1_1] rfl (bc_) ?_; (with_reducible refine (impl_byBoth.calls k a0_0 a0_1 a1_0 a1_1 t144 _ A3.out).mono ?_); rintro e w' ⟨rfl, ⟨nd, rfl⟩⟩; refine ⟨_, rfl, ?_⟩))
    go_ret; exact ⟨er_, bh_ GE142.out GE143.out⟩
 ·
  rw [if_neg c4] at H; have c4b0 : (t144 == 0) = false := beq_eq_false_iff_ne.mpr c4; have c4b1 : (t144 != 0) = true := bne_iff_ne.mpr c4; obtain rfl := Option.some.inj H; go_enter Try.func43, Try.ntmps43
  go_wp2_with (first | ((with_reducible refine gate_dst (N := 2) rfl ?_); refine be_ 2 (cs := #[.int .i64 a0_0, .int .i64 a0_1, .int .i64 a0_2, .int .i64 a0_3, .int .i64 a0_4]) (t := 37) ?_; intro gb142 hg w22 hbox hb; have n_ := as4_ (below_step (bb_) hb) (hbox) ((gs_ hg : w.heap.size ≤ gb142)) ((gs_ hg : w.heap.size ≤ gb142)); clear HB; obtain ⟨HB, BK142, GW142, GE142⟩ := n_; clear hb hbox hg) | ((with_reducible refine gate_dst (N := 3) rfl ?_); refine be_ 3 (cs := #[.int .i64 a1_0, .int .i64 a1_1, .int .i64 a1_2, .int .i64 a1_3, .int .i64 a1_4]) (t := 37) ?_; intro gb143 hg w23 hbox hb; have n_ := as7_ (blk_below (g := gb142) (o := .cells #[.int .i64 a0_0, .int .i64 a0_1, .int .i64 a0_2, .int .i64 a0_3, .int .i64 a0_4] 37 (0, 0)) (pb_ BK142.out) hb) (below_step (bg_ GE142.out) hb) (hbox) ((by rw [hg]; exact (below_size (bg_ GE142.out)) : w.heap.size ≤ gb143)) ((by rw [hg]; exact (below_size (bg_ GE142.out)) : w.heap.size ≤ gb143)) ((by rw [hg]; exact Nat.ne_of_lt (blk_lt (g := gb142) (o := .cells #[.int .i64 a0_0, .int .i64 a0_1, .int .i64 a0_2, .int .i64 a0_3, .int .i64 a0_4] 37 (0, 0)) (pb_ BK142.out)) : gb142 ≠ gb143)) ((by rw [hg]; exact Nat.ne_of_gt (blk_lt (g := gb142) (o := .cells #[.int .i64 a0_0, .int .i64 a0_1, .int .i64 a0_2, .int .i64 a0_3, .int .i64 a0_4] 37 (0, 0)) (pb_ BK142.out)) : gb143 ≠ gb142)); clear BK142 HB; obtain ⟨BK142, HB, BK143, GW143, GE143, NB142_143, NB143_142⟩ := n_; clear hb hbox hg; have hnb24 := NB142_143.out; have hnc24 := NB143_142.out; obtain ⟨hcz25_0, hcz25_1, hcz25_2, hcz25_3, hcz25_4, hfz25_0, hfz25_1, hfz25_2, hfz25_3, hfz25_4⟩ := ce5_ BK142.out; obtain ⟨hcz26_0, hcz26_1, hcz26_2, hcz26_3, hcz26_4, hfz26_0, hfz26_1, hfz26_2, hfz26_3, hfz26_4⟩ := ce5_ BK143.out) | ((with_reducible refine gate_callee (f := 77) rfl ?_); refine goesL_ (some 14) rfl rfl Try.func77 kr_ rfl #[.int .i64 a0_0, .int .i64 a0_1, .int .i64 a1_0, .int .i64 a1_1] rfl (bc_) ?_; (with_reducible refine (impl_byBoth.calls k a0_0 a0_1 a1_0 a1_1 t144 _ A3.out).mono ?_); rintro e w' ⟨rfl, ⟨nd, rfl⟩⟩; refine ⟨_, rfl, ?_⟩))
  go_ret; exact ⟨er_, bh_ GE142.out GE143.out⟩
def impl_sumLots.l0 : Nat → Int → Int → List (S37) → Int → Int → Option (Int × Int)
 | 0, _, _, _, _, _ => none
 | k + 1, x4, x5, x8, x9, x10 => if x10 < x9 then (if 0 ≤ x10 then (if x10 < (x8.length : Int) then (impl_sumLots.l0 k (wrap64 (x4 + ((rd_T37 x8 x10).f3))) (wrap64 (x5 + ((rd_T37 x8 x10).f4))) x8 x9 (wrap64 (x10 + 1))) else (none)) else (none)) else (some (x4, x5))
def impl_sumLots.f (k : Nat) (l0 : List (S37)) : Option (Int × Int) := impl_sumLots.l0 k 0 0 l0 (l0.length : Int) 0
set_option maxHeartbeats 8000000 in
set_option maxRecDepth 100000 in
theorem impl_sumLots.calls (k : Nat) (A0 : Option Addr) (c0 : Nat) (l0 : List (S37)) (r1 : Int) (r2 : Int) (w : World) (hr0 : Kd.C k37 w A0 l0.length l0) (hc0 : l0.length ≤ c0) (h : impl_sumLots.f k l0 = some (r1, r2)) :
 Calls Try.prog 46 #[.slice A0 l0.length c0] w fun e w' => e = .returned (.tuple #[.int .i64 r1, .int .i64 r2]) ∧ Below w.heap.size w w' := by
 have hu37 := Try.underlying37; have HR0 := Aside0.mk hr0; have HC0 := Aside0.mk hc0; clear hr0 hc0; have HB := Aside0.mk (Below.refl w.heap.size w); have H : (impl_sumLots.l0 k 0 0 l0 (l0.length : Int) 0) = some (r1, r2) := h; clear h; have H' := Aside0.mk H; clear H; go_enter Try.func46, Try.ntmps46; go_wp2; go_loopg [4, 5, 10] k (fun kq v4 v5 v10 w' => ∃ (x4_1 : Int) (x5_1 : Int) (x10_1 : Int), v4 = .int .i64 x4_1 ∧ v5 = .int .i64 x5_1 ∧ v10 = .int .i64 x10_1 ∧ Aside0 (impl_sumLots.l0 kq x4_1 x5_1 l0 (l0.length : Int) x10_1 = some (r1, r2)) ∧ Aside0 (kq ≤ k) ∧ Aside0 (Below w.heap.size w w'))
 case atStart => exact ⟨(0), (0), (0), (rs_), (rs_), (rs_), H', ⟨Nat.le_refl _⟩, ⟨bb_⟩⟩
 case round =>
  clear H'; obtain ⟨x4_1, x5_1, x10_1, rfl, rfl, rfl, HA, HK1, HB⟩ := hrel
  cases gk with
  | zero => exact absurd HA.out (by simp [impl_sumLots.l0])
  | succ k1 =>
   have H := HA.out; clear HA; simp only [impl_sumLots.l0] at H
   by_cases c2 : x10_1 < (l0.length : Int)
   ·
    rw [if_pos c2] at H; have c2b0 : decide (x10_1 < (l0.length : Int)) = true := decide_eq_true c2; clear c2
    by_cases c3 : 0 ≤ x10_1
    ·
     rw [if_pos c3] at H; have c3b0 : decide (0 ≤ x10_1) = true := decide_eq_true c3; clear c3
     by_cases c4 : x10_1 < (l0.length : Int)
     ·
      rw [if_pos c4] at H; have c4b0 : decide (x10_1 < (l0.length : Int)) = true := decide_eq_true c4; clear c4; have H' := Aside0.mk H; clear H; have p145 : 0 ≤ (x10_1 : Int) := od_; have q145 : x10_1 < (l0.length : Int) := od_; obtain ⟨ad145, e145, hx145_0, hx145_1, hx145_2, hx145_3, hx145_4⟩ := at_T37 HR0.out x10_1 p145 q145; cases e145; replace hx145_0 := cl_ HB.out hx145_0; replace hx145_1 := cl_ HB.out hx145_1; replace hx145_2 := cl_ HB.out hx145_2; replace hx145_3 := cl_ HB.out hx145_3; replace hx145_4 := cl_ HB.out hx145_4; replace p145 := eq_true p145; replace q145 := eq_true q145; go_wp2_with (first | ((with_reducible refine gate_dst (N := 7) rfl ?_); refine be_ 7 (cs := #[.int .i64 0, .int .i64 0, .int .i64 0, .int .i64 0, .int .i64 0]) (t := 37) ?_; intro gb146 hg w5 hbox hb; have n_ := as4_ (below_step (bb_) hb) (hbox) ((gs_ hg : w.heap.size ≤ gb146)) ((gs_ hg : w.heap.size ≤ gb146)); clear HB; obtain ⟨HB, BK146, GW146, GE146⟩ := n_; clear hb hbox hg; obtain ⟨hcz6_0, hcz6_1, hcz6_2, hcz6_3, hcz6_4, hfz6_0, hfz6_1, hfz6_2, hfz6_3, hfz6_4⟩ := ce5_ BK146.out))
      go_roundg k1
      case measure => have := HK1.out; omega
      case rel => exact ⟨(wrap64 (x4_1 + ((rd_T37 l0 x10_1).f3))), (wrap64 (x5_1 + ((rd_T37 l0 x10_1).f4))), (wrap64 (x10_1 + 1)), (rs_), (rs_), (rs_), H', ⟨by have := HK1.out; omega⟩, ⟨bg_ GE146.out⟩⟩
     ·
      rw [if_neg c4] at H; exact absurd H (by simp)
    ·
     rw [if_neg c3] at H; exact absurd H (by simp)
   ·
    rw [if_neg c2] at H; have c2b0 : decide (x10_1 < (l0.length : Int)) = false := decide_eq_false c2; clear c2; simp only [Option.some.injEq, Prod.mk.injEq] at H; obtain ⟨rfl, rfl⟩ := H; go_wp2; go_ret2; exact ⟨er_, bb_⟩
def impl_Lot_55.f (l0 : List (S37)) : Option ((List (S37))) := (some (([] : List (S37)) : List (S37))).bind fun y147 => (if y147.length + l0.length < 3518437208883 then (some (y147 ++ l0)) else (none))
set_option maxHeartbeats 8000000 in
set_option maxRecDepth 100000 in
theorem impl_Lot_55.calls (A0 : Option Addr) (c0 : Nat) (l0 : List (S37)) (r : List (S37)) (w : World) (hr0 : Kd.C k37 w A0 l0.length l0) (hc0 : l0.length ≤ c0) (h : impl_Lot_55.f l0 = some r) :
 Calls Try.prog 55 #[.slice A0 l0.length c0] w fun e w' => ∃ v0_ : Value, e = .returned (v0_) ∧ Kd.R k37 37 w' w.heap.size (fun _ => True) v0_ r ∧ Below w.heap.size w w' := by
 have HR0 := Aside0.mk hr0; have HC0 := Aside0.mk hc0; clear hr0 hc0; have HB := Aside0.mk (Below.refl w.heap.size w); have H : ((some (([] : List (S37)) : List (S37))).bind fun y147 => (if y147.length + l0.length < 3518437208883 then (some (y147 ++ l0)) else (none))) = some r := h; clear h; obtain ⟨y147, hy147⟩ : ∃ y_ : List (S37), y_ = (([] : List (S37))) := ⟨_, rfl⟩; replace H : (if y147.length + l0.length < 3518437208883 then (some (y147 ++ l0)) else (none)) = some r := rh_ hy147 H; have Ny147 := Aside0.mk hy147; clear hy147
 by_cases c2 : y147.length + l0.length < 3518437208883
 ·
  rw [if_pos c2] at H; have LMc2 := Aside0.mk c2; clear c2; obtain ⟨y150, hy150⟩ : ∃ y_ : List (S37), y_ = (y147 ++ l0) := ⟨_, rfl⟩; replace H : (some y150) = some r := rh_ hy150 H; have Ny150 := Aside0.mk hy150; clear hy150; obtain rfl := Option.some.inj H; have q_ : ∀ (W : World) (a : Option Addr) (n c n' c' : Nat), (binOp .eql 25 (.slice a n c) (.slice none n' c')).run Try.prog W = .ok (.bool a.isNone) W := fun W a n c n' c' => Lib.run_eql_slice_nil W _ _ a n c n' c' Try.underlying25
  cases A0 with
  | none =>
   have e0_ : l0 = [] := by
    have h_ : ReadsRow _ _ _ _ _ _ := HR0.out; unfold ReadsRow at h_
    obtain ⟨h1_, _, h2_⟩ := h_; apply List.eq_nil_of_length_eq_zero
    apply Classical.byContradiction
    intro hn_
    obtain ⟨ad_, e_, _⟩ := h2_ (by omega)
    cases e_
   have Ny0_ : y150 = [] := by rw [Ny150.out, Ny147.out, e0_]; rfl
   subst Ny0_; go_enter Try.func55, Try.ntmps55; go_wp2; go_ret; exact ⟨_, rs_, Kd.R_nil _ _ _ _ _, HB.out⟩
  | some ad0 =>
   go_enter Try.func55, Try.ntmps55
   go_wp2_with (first | ((with_reducible refine gate_dst (N := 5) rfl ?_); refine Kd.R_lit k37 _ 37 ?hg (N := 5) ?hd (xs := ([] : List (S37))) (inner := []) (ok := fun _ => True) (okp := fun _ => True) ?hr ?hp (fun _ hk => hk) trivial (Below.refl _ _) (Nat.le_refl _) (by simp) ?_; (case hd => rfl); (case hg => rfl); (case hr => first | (go_simp; done) | (go_simp; rfl)); (case hp => exact (Reps.none _ _)); intro v148 w3 ho4 hb hg_ hnew_; clear hg_ hnew_; (first | rw [← Ny147.out] at ho4 | (simp only [Int.reduceToNat] at ho4; rw [← Ny147.out] at ho4)); have n_ := as2_ (Kd.R_lower ho4 (below_size (bb_))) (below_step (bb_) hb); clear HB; obtain ⟨HO149, HB⟩ := n_; clear hb ho4) | ((with_reducible refine gate_builtin (b := .append) (xs := #[.tmp 5, .tmp 6]) rfl ?_); at_builtin; refine Kd.R_append_rows k37 (w0 := w) w.heap.size rfl (.tmp 5) (.tmp 6) 25 37 (.agg #[(.int .i64 0), (.int .i64 0), (.int .i64 0), (.int .i64 0), (.int .i64 0)]) 40 rfl Try.underlying25 info37 rfl (by decide) (by omega) v148 y147 l0 _ _ _ (fun _ => True) (fun _ => False) rfl rfl ?aO ?aR (fun _ _ h => h) (fun _ h => h.elim) ?aF ?aB ?aS ?aL ?_; (case aR => exact cc_ (Kd.C_below HR0.out HB.out)); (case aB => exact (bb_)); (case aF => exact (fun _ _ => trivial)); (case aO => exact (pe_ HO149.out)); (case aS => exact (below_size (bb_))); (case aL => have := LMc2.out; omega); intro v151 w5 ho hb hg hat; rw [← Ny150.out] at ho; have n_ := as2_ (hb) (ho); clear HB HO149; obtain ⟨HB, HO152⟩ := n_; clear ho hb hg hat))
   go_ret; exact ⟨_, er_, pe_ HO152.out, bb_⟩
 ·
  rw [if_neg c2] at H; exact absurd H (by simp)
def impl_isLot.f (a0_0 : Int) (a0_1 : Int) (a0_2 : Int) (a0_3 : Int) (a0_4 : Int) (a1 : Int) (a2 : Int) : Option (Bool) := if a0_0 = a1 then (some (a0_1 == a2)) else (some false)
set_option maxHeartbeats 8000000 in
set_option maxRecDepth 100000 in
theorem impl_isLot.calls (a0_0 : Int) (a0_1 : Int) (a0_2 : Int) (a0_3 : Int) (a0_4 : Int) (a1 : Int) (a2 : Int) (r : Bool) (w : World) (h : impl_isLot.f a0_0 a0_1 a0_2 a0_3 a0_4 a1 a2 = some r) :
 Calls Try.prog 81 #[.agg #[.int .i64 a0_0, .int .i64 a0_1, .int .i64 a0_2, .int .i64 a0_3, .int .i64 a0_4], .int .i64 a1, .int .i64 a2] w fun e w' => e = .returned (.bool r) ∧ Below w.heap.size w w' := by
 have hu37 := Try.underlying37; have HB := Aside0.mk (Below.refl w.heap.size w); have H : (if a0_0 = a1 then (some (a0_1 == a2)) else (some false)) = some r := h; clear h
 by_cases c4 : a0_0 = a1
 ·
  rw [if_pos c4] at H; have c4b0 : (a0_0 == a1) = true := beq_iff_eq.mpr c4; have c4b1 : (a0_0 != a1) = false := bne_eq_false_iff_eq.mpr c4; clear c4; obtain rfl := Option.some.inj H; go_enter Try.func81, Try.ntmps81; go_wp2_with (first | ((with_reducible refine gate_dst (N := 3) rfl ?_); refine be_ 3 (cs := #[.int .i64 a0_0, .int .i64 a0_1, .int .i64 a0_2, .int .i64 a0_3, .int .i64 a0_4]) (t := 37) ?_; intro gb153 hg w5 hbox hb; have n_ := as4_ (below_step (bb_) hb) (hbox) ((gs_ hg : w.heap.size ≤ gb153)) ((gs_ hg : w.heap.size ≤ gb153)); clear HB; obtain ⟨HB, BK153, GW153, GE153⟩ := n_; clear hb hbox hg; obtain ⟨hcz6_0, hcz6_1, hcz6_2, hcz6_3, hcz6_4, hfz6_0, hfz6_1, hfz6_2, hfz6_3, hfz6_4⟩ := ce5_ BK153.out))
  go_ret; exact ⟨er_, bg_ GE153.out⟩
 ·
  rw [if_neg c4] at H; have c4b0 : (a0_0 == a1) = false := beq_eq_false_iff_ne.mpr c4; have c4b1 : (a0_0 != a1) = true := bne_iff_ne.mpr c4; obtain rfl := Option.some.inj H; go_enter Try.func81, Try.ntmps81; go_wp2_with (first | ((with_reducible refine gate_dst (N := 3) rfl ?_); refine be_ 3 (cs := #[.int .i64 a0_0, .int .i64 a0_1, .int .i64 a0_2, .int .i64 a0_3, .int .i64 a0_4]) (t := 37) ?_; intro gb153 hg w7 hbox hb; have n_ := as4_ (below_step (bb_) hb) (hbox) ((gs_ hg : w.heap.size ≤ gb153)) ((gs_ hg : w.heap.size ≤ gb153)); clear HB; obtain ⟨HB, BK153, GW153, GE153⟩ := n_; clear hb hbox hg; obtain ⟨hcz8_0, hcz8_1, hcz8_2, hcz8_3, hcz8_4, hfz8_0, hfz8_1, hfz8_2, hfz8_3, hfz8_4⟩ := ce5_ BK153.out))
  go_ret; exact ⟨er_, bg_ GE153.out⟩
end Go.Proofs.Ytomanpmffjkkgaa.P
namespace Go.Proofs.Ytomanpmffjkkgaa.P
open Go.RowKit Go.Proofs.YtomanpmffjkkgaaW.PrintWords Go.Proofs.YtomanpmffjkkgaaW.PrintLast Go.Proofs.YtomanpmffjkkgaaW.PrintMore
attribute [local go_sem] max2_int min2_int max_two min_two max_three min_three max_four min_four   -- for this text's walks alone
set_option linter.unusedVariables false
set_option linter.unusedSimpArgs false
set_option maxHeartbeats 8000000 in
set_option maxRecDepth 100000 in
theorem IndexFunc_st37.calls (A0 : Option Addr) (c0 : Nat) (l0 : List (S37)) (fc : FuncId) (caps : Array Value) (p : S37 → Bool) (w : World) (hr0 : Kd.C k37 w A0 l0.length l0) (hc0 : l0.length ≤ c0) (hp : X0.FnB Try.prog fc caps w (fun x => .agg #[.int .i64 x.f0, .int .i64 x.f1, .int .i64 x.f2, .int .i64 x.f3, .int .i64 x.f4]) p) :
 Calls Try.prog 78 #[.slice A0 l0.length c0, .func (.func fc) #[] caps] w fun e w' => e = .returned (.int .i64 (X0.idx p l0)) ∧ Below w.heap.size w w' := by
 obtain ⟨fn, hf, hn, hb, hcall⟩ := hp; have HR0 := Aside0.mk hr0; have HC0 := Aside0.mk hc0; have HF := Aside0.mk hf; have HN := Aside0.mk hn; have HBo := Aside0.mk hb; have HP := Aside0.mk hcall; have HM := Aside0.mk (Kd.C_max hr0); clear hr0 hc0 hf hn hb hcall; have HB := Aside0.mk (Below.refl w.heap.size w); have hu37 := Try.underlying37; go_enter Try.func78, Try.ntmps78; go_wp2; go_loopg [8] l0.length (fun kq v8 w' => ∃ (x : Int), v8 = .int .i64 x ∧ Aside0 (0 ≤ x ∧ x ≤ l0.length ∧ kq = (l0.length - x).toNat ∧ ∀ j : Nat, j < x.toNat → p (l0.getD j z37) = false) ∧ Aside0 (Below w.heap.size w w'))
 case atStart => exact ⟨0, rfl, ⟨Int.le_refl _, by omega, by omega, fun j hj => by omega⟩, ⟨HB.out⟩⟩
 case round =>
  obtain ⟨x, rfl, HA, HB⟩ := hrel
  by_cases c2 : x < (l0.length : Int)
  ·
   have p1 : 0 ≤ x := HA.out.1; obtain ⟨ad, e, hx_0, hx_1, hx_2, hx_3, hx_4⟩ := at_T37 HR0.out x p1 c2; cases e; replace hx_0 := cl_ HB.out hx_0; replace hx_1 := cl_ HB.out hx_1; replace hx_2 := cl_ HB.out hx_2; replace hx_3 := cl_ HB.out hx_3; replace hx_4 := cl_ HB.out hx_4; have c2b0 : decide (x < (l0.length : Int)) = true := decide_eq_true c2; have C2 := Aside0.mk c2; replace p1 := eq_true p1; have q1 := eq_true c2; clear c2
   cases hpx : p (rd_T37 l0 x) with
   | true =>
    have HX := Aside0.mk hpx; clear hpx; go_wp2_with (first | ((with_reducible refine gate_dst (N := 16) rfl ?_); refine X0.goesV_ (some 16) rfl rfl caps HF.out HN.out HBo.out #[.agg #[.int .i64 (rd_T37 l0 x).f0, .int .i64 (rd_T37 l0 x).f1, .int .i64 (rd_T37 l0 x).f2, .int .i64 (rd_T37 l0 x).f3, .int .i64 (rd_T37 l0 x).f4]] rfl rfl (by (try simp only [List.map_toArray, List.map_cons, List.map_nil]); first | done | rfl) ?_; refine (HP.out (rd_T37 l0 x) _ HB.out).mono ?_; rintro e w6 ⟨rfl, hb6⟩; refine ⟨_, rfl, ?_⟩; rw [HX.out]; replace HB := Aside0.mk (below_step HB.out hb6); clear hb6))
    go_ret
    exact ⟨by
     have := HA.out; have h2 := C2.out; have e1 : rd_T37 l0 x = l0.getD x.toNat z37 := rfl; have h3 := HX.out; rw [e1] at h3; rw [X0.idx_found p z37 l0 x.toNat (by omega) this.2.2.2 h3, Int.toNat_of_nonneg this.1]
     rfl, HB.out⟩
   | false =>
    have HX := Aside0.mk hpx; clear hpx; go_wp2_with (first | ((with_reducible refine gate_dst (N := 16) rfl ?_); refine X0.goesV_ (some 16) rfl rfl caps HF.out HN.out HBo.out #[.agg #[.int .i64 (rd_T37 l0 x).f0, .int .i64 (rd_T37 l0 x).f1, .int .i64 (rd_T37 l0 x).f2, .int .i64 (rd_T37 l0 x).f3, .int .i64 (rd_T37 l0 x).f4]] rfl rfl (by (try simp only [List.map_toArray, List.map_cons, List.map_nil]); first | done | rfl) ?_; refine (HP.out (rd_T37 l0 x) _ HB.out).mono ?_; rintro e w6 ⟨rfl, hb6⟩; refine ⟨_, rfl, ?_⟩; rw [HX.out]; replace HB := Aside0.mk (below_step HB.out hb6); clear hb6))
    go_roundg (l0.length - (x + 1)).toNat
    case measure => have := HA.out; have := C2.out; omega
    case rel =>
     have h1 := HA.out; have h2 := C2.out; have h4 := HM.out; refine ⟨wrap64 (x + 1), (rs_), ⟨?_⟩, ⟨HB.out⟩⟩
     have hw : wrap64 (x + 1) = x + 1 := by unfold wrap64; omega
     rw [hw]
     refine ⟨by omega, by omega, rfl, fun j hj => ?_⟩
     by_cases hj2 : j < x.toNat
     ·
      exact h1.2.2.2 j hj2
     ·
      obtain rfl : j = x.toNat := by omega
      exact HX.out
  ·
   have c2b0 : decide (x < (l0.length : Int)) = false := decide_eq_false c2; have C2 := Aside0.mk c2; clear c2; go_wp2; go_ret
   exact ⟨by
    have := HA.out; have h2 := C2.out; rw [X0.idx_none p z37 l0 fun j hj => this.2.2.2 j (by omega)]
    rfl, HB.out⟩
set_option maxHeartbeats 8000000 in
set_option maxRecDepth 100000 in
theorem ContainsFunc_st37.calls (A0 : Option Addr) (c0 : Nat) (l0 : List (S37)) (fc : FuncId) (caps : Array Value) (p : S37 → Bool) (w : World) (hr0 : Kd.C k37 w A0 l0.length l0) (hc0 : l0.length ≤ c0) (hp : X0.FnB Try.prog fc caps w (fun x => .agg #[.int .i64 x.f0, .int .i64 x.f1, .int .i64 x.f2, .int .i64 x.f3, .int .i64 x.f4]) p) :
 Calls Try.prog 44 #[.slice A0 l0.length c0, .func (.func fc) #[] caps] w fun e w' => e = .returned (.bool (l0.any p)) ∧ Below w.heap.size w w' := by
 have HI := Aside0.mk (IndexFunc_st37.calls A0 c0 l0 fc caps p w hr0 hc0 hp); clear hr0 hc0 hp; go_enter Try.func44, Try.ntmps44; go_wp2_with (first | (go_at_call 78; refine HI.out.mono ?_; rintro e w6 ⟨rfl, hb6⟩; have HB := Aside0.mk hb6; clear hb6))
 go_ret
 exact ⟨by
  rw [← X0.idx_any p l0]
  rfl, HB.out⟩
theorem delf37_flat : IN.Flat k37 (fun x : S37 => ([.int .i64 x.f0, .int .i64 x.f1, .int .i64 x.f2, .int .i64 x.f3, .int .i64 x.f4] : List Value)) := ⟨fun h => k37_openM h, fun w base ok x => k37_mkM w base ok x, fun h => k37_open h⟩
theorem delf37_zero (w : World) : (zeroValue 37).run Try.prog w = .ok (.agg #[(.int .i64 0), (.int .i64 0), (.int .i64 0), (.int .i64 0), (.int .i64 0)]) w := by
 obtain ⟨i0, hi, hz⟩ := Option.map_eq_some_iff.1 info37; simp only [Prod.mk.injEq] at hz; simp [zeroValue, typeInfo, hi, hz.1]
set_option maxHeartbeats 8000000 in
set_option maxRecDepth 100000 in
theorem DeleteFunc_st37.some_ (g c i0 : Nat) (l0 : List (S37)) (fc : FuncId) (caps : Array Value) (p : S37 → Bool) (w : World) (hraw : DG.Raw (fun x : S37 => ([.int .i64 x.f0, .int .i64 x.f1, .int .i64 x.f2, .int .i64 x.f3, .int .i64 x.f4] : List Value)) 5 37 c g w l0) (hlc : l0.length ≤ c) (hcm : c ≤ maxLen) (hl : l0.length < 1048577)
 (hp : DG.FnG Try.prog fc caps w g (fun x : S37 => .agg #[.int .i64 x.f0, .int .i64 x.f1, .int .i64 x.f2, .int .i64 x.f3, .int .i64 x.f4]) p) (hi0 : i0 < l0.length) (hx : X0.idx p l0 = (i0 : Int)) (ht : p (l0.getD i0 z37) = true) (ha : ∀ x ∈ l0.take i0, p x = false) :
 Calls Try.prog 79 #[.slice (some ⟨g, 0, none⟩) l0.length c, .func (.func fc) #[] caps] w fun e w' => e = .returned (.slice (some ⟨g, 0, none⟩) (l0.filter fun x => !p x).length c) ∧ w.grownBy w' (some g) ∧ DG.Raw (fun x : S37 => ([.int .i64 x.f0, .int .i64 x.f1, .int .i64 x.f2, .int .i64 x.f3, .int .i64 x.f4] : List Value)) 5 37 c g w' (l0.filter fun x => !p x) := by
 have hu37 := Try.underlying37; have HI := Aside0.mk (IndexFunc_st37.calls (some ⟨g, 0, none⟩) c l0 fc caps p w (DG.Raw.reads delf37_flat rfl hraw hlc hcm) hlc hp.below); obtain ⟨fn, hf, hn, hb, hcall⟩ := hp; have HF := Aside0.mk hf; have HN := Aside0.mk hn; have HBo := Aside0.mk hb; have HP := Aside0.mk hcall; have HRW := Aside0.mk hraw; have HST := Aside0.mk (DG.KI.start (p := p) z37 hi0 ht ha); have HX := Aside0.mk hx; have hm : c ≤ 9223372036854775807 := by unfold maxLen at hcm; exact hcm
 have hne1 : ((i0 : Int) == -1) = false := beq_eq_false_iff_ne.2 (by omega)
 clear hf hn hb hcall hraw ht ha hx; go_enter Try.func79, Try.ntmps79; go_wp2_with (go_at_call 78; refine HI.out.mono ?_; rintro e w6 ⟨rfl, hb6⟩; rw [HX.out]; have HB := Aside0.mk hb6; clear hb6)
 go_loopg [5, 6] l0.length (fun kq v5 v6 wr => ∃ (i j : Nat) (xs : List (S37)), v5 = .int .i64 (i : Int) ∧ v6 = .int .i64 (j : Int) ∧ Aside0 (DG.KI p l0 xs i j ∧ l0.length - j ≤ kq) ∧ Aside0 (w.grownBy wr (some g)) ∧ Aside0 (DG.Raw (fun x : S37 => ([.int .i64 x.f0, .int .i64 x.f1, .int .i64 x.f2, .int .i64 x.f3, .int .i64 x.f4] : List Value)) 5 37 c g wr xs))
 case atStart => exact ⟨i0, i0 + 1, l0, rfl, by go_num, ⟨HST.out, by omega⟩, ⟨grown_of_below HB.out _⟩, ⟨HRW.out.later HB.out⟩⟩
 case round =>
  obtain ⟨i, j, xs, rfl, rfl, HK, HG, HR⟩ := hrel
  by_cases hlt : j < l0.length
  ·
   have hxj := (HK.out.1).at z37 hlt; have hjx : j < xs.length := by rw [HK.out.1.len]; exact hlt
   obtain ⟨x, hx0⟩ : ∃ x, x = l0.getD j z37 := ⟨_, rfl⟩; have HX0 := Aside0.mk hx0; have hx_0 := HR.out.cell delf37_flat rfl z37 j 0 hjx (.int .i64 x.f0) (by rw [hxj, ← hx0]; rfl)
   have hx_1 := HR.out.cell delf37_flat rfl z37 j 1 hjx (.int .i64 x.f1) (by rw [hxj, ← hx0]; rfl)
   have hx_2 := HR.out.cell delf37_flat rfl z37 j 2 hjx (.int .i64 x.f2) (by rw [hxj, ← hx0]; rfl)
   have hx_3 := HR.out.cell delf37_flat rfl z37 j 3 hjx (.int .i64 x.f3) (by rw [hxj, ← hx0]; rfl)
   have hx_4 := HR.out.cell delf37_flat rfl z37 j 4 hjx (.int .i64 x.f4) (by rw [hxj, ← hx0]; rfl)
   rw [Nat.add_zero] at hx_0; have hij : i < j := HK.out.1.lt; have hjc : j < c := by omega
   clear hxj hjx hx0
   cases hpx : p x with
   | true =>
    have HPX := Aside0.mk hpx; clear hpx; go_wp2_with (first | ((with_reducible refine gate_dst (N := 28) rfl ?_); refine X0.goesV_ (some 28) rfl rfl caps HF.out HN.out HBo.out #[.agg #[.int .i64 x.f0, .int .i64 x.f1, .int .i64 x.f2, .int .i64 x.f3, .int .i64 x.f4]] rfl rfl (by (try simp only [List.map_toArray, List.map_cons, List.map_nil]); first | done | rfl) ?_; refine (HP.out x _ (DG.grown_below HG.out (below_alloc (Below.refl _ _) _))).mono ?_; rintro e w9 ⟨rfl, hb9⟩; refine ⟨_, rfl, ?_⟩; rw [HPX.out]; have HB9 := Aside0.mk hb9; skip; clear hb9))
    go_roundg (l0.length - (j + 1))
    case measure => have := HK.out.2; omega
    case rel => exact ⟨i, j + 1, xs, rfl, by go_num, ⟨HK.out.1.skip z37 hlt (by rw [← HX0.out]; exact HPX.out), Nat.le_refl _⟩, ⟨DG.grown_below (DG.grown_below HG.out (below_alloc (Below.refl _ _) _)) HB9.out⟩, ⟨(HR.out.later (below_alloc (Below.refl _ _) _)).later HB9.out⟩⟩
   | false =>
    have HPX := Aside0.mk hpx; clear hpx; have hix : i < xs.length := by have := HK.out.1.len; omega
    have hic : i < c := by omega
    have hiz : (i : Int) < (l0.length : Int) := by omega
    go_wp2_with (first | ((with_reducible refine gate_dst (N := 28) rfl ?_); refine X0.goesV_ (some 28) rfl rfl caps HF.out HN.out HBo.out #[.agg #[.int .i64 x.f0, .int .i64 x.f1, .int .i64 x.f2, .int .i64 x.f3, .int .i64 x.f4]] rfl rfl (by (try simp only [List.map_toArray, List.map_cons, List.map_nil]); first | done | rfl) ?_; refine (HP.out x _ (DG.grown_below HG.out (below_alloc (Below.refl _ _) _))).mono ?_; rintro e w9 ⟨rfl, hb9⟩; refine ⟨_, rfl, ?_⟩; rw [HPX.out]; have HB9 := Aside0.mk hb9; have hy_0 := (hb9.cell (p := ⟨wr.heap.size, 0, none⟩) (by simp)).trans ((DG.cell_new wr _ _ 0).trans (rfl : _ = some (Value.int .i64 x.f0))); have hy_1 := (hb9.cell (p := ⟨wr.heap.size, 1, none⟩) (by simp)).trans ((DG.cell_new wr _ _ 1).trans (rfl : _ = some (Value.int .i64 x.f1))); have hy_2 := (hb9.cell (p := ⟨wr.heap.size, 2, none⟩) (by simp)).trans ((DG.cell_new wr _ _ 2).trans (rfl : _ = some (Value.int .i64 x.f2))); have hy_3 := (hb9.cell (p := ⟨wr.heap.size, 3, none⟩) (by simp)).trans ((DG.cell_new wr _ _ 3).trans (rfl : _ = some (Value.int .i64 x.f3))); have hy_4 := (hb9.cell (p := ⟨wr.heap.size, 4, none⟩) (by simp)).trans ((DG.cell_new wr _ _ 4).trans (rfl : _ = some (Value.int .i64 x.f4))); have RW9 := (HR.out.later (below_alloc (Below.refl _ _) (Obj.cells #[.int .i64 x.f0, .int .i64 x.f1, .int .i64 x.f2, .int .i64 x.f3, .int .i64 x.f4] 37 (0, 0)))).later hb9; have hd_0 := RW9.cell delf37_flat rfl z37 i 0 hix (.int .i64 (xs.getD i z37).f0) rfl; have hf_0 := RW9.frozen (i * 5 + 0); have hd_1 := RW9.cell delf37_flat rfl z37 i 1 hix (.int .i64 (xs.getD i z37).f1) rfl; have hf_1 := RW9.frozen (i * 5 + 1); have hd_2 := RW9.cell delf37_flat rfl z37 i 2 hix (.int .i64 (xs.getD i z37).f2) rfl; have hf_2 := RW9.frozen (i * 5 + 2); have hd_3 := RW9.cell delf37_flat rfl z37 i 3 hix (.int .i64 (xs.getD i z37).f3) rfl; have hf_3 := RW9.frozen (i * 5 + 3); have hd_4 := RW9.cell delf37_flat rfl z37 i 4 hix (.int .i64 (xs.getD i z37).f4) rfl; have hf_4 := RW9.frozen (i * 5 + 4); rw [Nat.add_zero] at hd_0 hf_0; have HW9 := Aside0.mk RW9; clear RW9; clear hb9))
    go_roundg (l0.length - (j + 1))
    case measure => have := HK.out.2; omega
    case rel =>
     have hk2 := HK.out.1.keep z37 hlt (by rw [← HX0.out]; exact HPX.out)
     rw [← HX0.out] at hk2; exact ⟨i + 1, j + 1, xs.set i x, by go_num, by go_num, ⟨hk2, Nat.le_refl _⟩, ⟨DG.grown_row (DG.grown_below (DG.grown_below HG.out (below_alloc (Below.refl _ _) _)) HB9.out) (IN.grown_set (g := g) ([.int .i64 x.f0, .int .i64 x.f1, .int .i64 x.f2, .int .i64 x.f3, .int .i64 x.f4] : List Value) (i * 5))⟩, ⟨HW9.out.set delf37_flat rfl i x hix⟩⟩
  ·
   have hj : j = l0.length := by have := HK.out.1.le; omega
   subst hj; have hil : i < l0.length := HK.out.1.lt; have hlen := HK.out.1.len; have hic : i < c := by omega
   have hic2 : ¬ (c = i) := by omega
   have hcl := fun ty => DL.run_clear_k (P := Try.prog) wr 25 37 ty (.agg #[(.int .i64 0), (.int .i64 0), (.int .i64 0), (.int .i64 0), (.int .i64 0)]) Try.underlying25 delf37_zero 5 rfl (by intro v hv; simp [Value.cells] at hv; simp [hv, Value.oneCell']) g (i * 5) (l0.length - i) (c - i) (fun t ht => HR.out.some_ delf37_flat rfl (i * 5 + t) (by rw [hlen]; omega)) (fun t _ => HR.out.frozen _)
   clear hlen; go_wp2; go_ret; have hdone := HK.out.1.done; have hlen2 := HK.out.1.len; have hfl : (l0.filter fun x => !p x).length = i := by rw [← hdone, List.length_take]; omega
   refine ⟨by rw [hfl]; rfl, DG.grown_row HG.out (IN.grown_set _ _), ?_⟩
   rw [← hdone]
   exact HR.out.cut delf37_flat rfl i (by omega) _ (by rw [DL.zeroCells_len, hlen2]; rfl)
set_option maxHeartbeats 8000000 in
set_option maxRecDepth 100000 in
theorem DeleteFunc_st37.none_ (A0 : Option Addr) (c0 : Nat) (l0 : List (S37)) (fc : FuncId) (caps : Array Value) (p : S37 → Bool) (w : World) (hr0 : Kd.C k37 w A0 l0.length l0) (hc0 : l0.length ≤ c0) (hp : X0.FnB Try.prog fc caps w (fun x => .agg #[.int .i64 x.f0, .int .i64 x.f1, .int .i64 x.f2, .int .i64 x.f3, .int .i64 x.f4]) p) (hx : X0.idx p l0 = -1) :
 Calls Try.prog 79 #[.slice A0 l0.length c0, .func (.func fc) #[] caps] w fun e w' => e = .returned (.slice A0 l0.length c0) ∧ Below w.heap.size w w' := by
 have HI := Aside0.mk (IndexFunc_st37.calls A0 c0 l0 fc caps p w hr0 hc0 hp); have HX := Aside0.mk hx; clear hr0 hc0 hp hx; go_enter Try.func79, Try.ntmps79; go_wp2_with (go_at_call 78; refine HI.out.mono ?_; rintro e w6 ⟨rfl, hb6⟩; rw [HX.out]; have HB := Aside0.mk hb6; clear hb6)
 go_ret; exact ⟨rfl, HB.out⟩
theorem DeleteFunc_st37.calls (base : Nat) (ok : Nat → Prop) (v : Value) (l0 : List (S37)) (fc : FuncId) (caps : Array Value) (p : S37 → Bool) (w : World) (ho : Kd.R k37 37 w base ok v l0) (hl : l0.length < 1048577) (hb : X0.FnB Try.prog fc caps w (fun x => .agg #[.int .i64 x.f0, .int .i64 x.f1, .int .i64 x.f2, .int .i64 x.f3, .int .i64 x.f4]) p)
 (hp : ∀ g, v.ownBlock = some g → base ≤ g → DG.FnG Try.prog fc caps w g (fun x : S37 => .agg #[.int .i64 x.f0, .int .i64 x.f1, .int .i64 x.f2, .int .i64 x.f3, .int .i64 x.f4]) p) :
 Calls Try.prog 79 #[v, .func (.func fc) #[] caps] w fun e w' => ∃ v', e = .returned v' ∧ Kd.R k37 37 w' base ok v' (l0.filter fun x => !p x) ∧ w.grownBy w' v.ownBlock := by
 rcases DG.idx_cases p z37 l0 with ⟨hx, ha⟩ | ⟨i0, hi0, hx, ht, ha⟩
 ·
  obtain ⟨A0, c0, e0⟩ := Kd.R_slice ho; subst e0; have hr := Kd.R_reads' ho; refine (DeleteFunc_st37.none_ A0 c0 l0 fc caps p w hr.2.2 hr.2.1 hb hx).mono ?_
  rintro e w' ⟨rfl, hb'⟩; rw [DG.filter_all p l0 ha]
  exact ⟨_, rfl, Kd.R_below ho hb', grown_of_below hb' _⟩
 ·
  obtain ⟨hv, hv2⟩ | ⟨g, c, rfl⟩ := IN.R_cases ho
  ·
   subst hv2; exact absurd hi0 (Nat.not_lt_zero _)
  obtain ⟨n1, n2, n3, n4, n5, _⟩ := IN.R_raw delf37_flat ho; have hraw := DG.Raw.of_R delf37_flat ho; have hFG := hp g (by simp [Value.ownBlock]) n4
  refine (DeleteFunc_st37.some_ g c i0 l0 fc caps p w hraw n2 n3 hl hFG hi0 hx ht ha).mono ?_
  rintro e w' ⟨rfl, hg, hr⟩; have hfl : (l0.filter fun x => !p x).length ≤ c := Nat.le_trans (List.length_filter_le _ _) n2; exact ⟨_, rfl, hr.to_R delf37_flat rfl n4 n5 hfl n3, by simpa [Value.ownBlock] using hg⟩
def impl_lotsOf.f (l0 : List (S37)) (a1 a2 : Int) : Option (List (S37)) := if l0.length < 1048577 then some (l0.filter fun x => decide (x.f0 = a1 ∧ x.f1 = a2)) else none
theorem impl_lotsOf.is_ (x : S37) (a1 a2 : Int) : impl_isLot.f x.f0 x.f1 x.f2 x.f3 x.f4 a1 a2 = some (decide (x.f0 = a1 ∧ x.f1 = a2)) := by
 unfold impl_isLot.f
 by_cases h1 : x.f0 = a1 <;> by_cases h2 : x.f1 = a2 <;> simp [h1, h2]
set_option maxHeartbeats 8000000 in
set_option maxRecDepth 100000 in
theorem impl_lotsOf.clo (B1 B2 : Nat) (a1 a2 : Int) (x : S37) (W : World) (h1 : W.cell? ⟨B1, 0, none⟩ = some (.int .i64 a1)) (h2 : W.cell? ⟨B2, 0, none⟩ = some (.int .i64 a2)) :
 Calls Try.prog 80 #[.agg #[.int .i64 x.f0, .int .i64 x.f1, .int .i64 x.f2, .int .i64 x.f3, .int .i64 x.f4], .pointer (some ⟨B1, 0, none⟩), .pointer (some ⟨B2, 0, none⟩)] W fun e W' => e = .returned (.bool (!decide (x.f0 = a1 ∧ x.f1 = a2))) ∧ Below W.heap.size W W' := by
 have HB := Aside0.mk (Below.refl W.heap.size W); have HI := Aside0.mk (impl_lotsOf.is_ x a1 a2); obtain ⟨q, hq⟩ : ∃ q, decide (x.f0 = a1 ∧ x.f1 = a2) = q := ⟨_, rfl⟩; rw [hq] at HI ⊢
 clear hq; have HQ := Aside0.mk (show ∀ W2, Below W.heap.size W W2 → Calls Try.prog 81 #[.agg #[.int .i64 x.f0, .int .i64 x.f1, .int .i64 x.f2, .int .i64 x.f3, .int .i64 x.f4], .int .i64 a1, .int .i64 a2] W2 fun e W' => e = .returned (.bool q) ∧ Below W2.heap.size W2 W' from fun W2 _ => impl_isLot.calls _ _ _ _ _ _ _ q W2 HI.out); have g1 := Lib.cell?_alloc_some (.cells #[.int .i64 x.f0, .int .i64 x.f1, .int .i64 x.f2, .int .i64 x.f3, .int .i64 x.f4] 37 (0, 0)) h1; have g2 := Lib.cell?_alloc_some (.cells #[.int .i64 x.f0, .int .i64 x.f1, .int .i64 x.f2, .int .i64 x.f3, .int .i64 x.f4] 37 (0, 0)) h2; clear h1 h2; go_enter Try.func80, Try.ntmps80; go_wp2_with (go_at_call 81; refine (HQ.out _ (below_alloc HB.out _)).mono ?_; rintro e w6 ⟨rfl, hb6⟩; have HB6 := Aside0.mk hb6; clear hb6)
 all_goals
  go_ret; exact ⟨rs_, below_step (below_alloc HB.out _) HB6.out⟩
theorem impl_lotsOf.up (w : World) (o1 o2 : Obj) : w.heap.size ≤ ((w.alloc o1).alloc o2).heap.size := by simp; omega
theorem impl_lotsOf.lt1 {w : World} {o1 o2 : Obj} {g : Nat} (h : ((w.alloc o1).alloc o2).heap.size ≤ g) : w.heap.size < g := by simp at h; omega
theorem impl_lotsOf.lt2 {w : World} {o1 o2 : Obj} {g : Nat} (h : ((w.alloc o1).alloc o2).heap.size ≤ g) : w.heap.size + 1 < g := by simp at h; omega
theorem impl_lotsOf.c1 {w w5 : World} {u1 : Value} {t : Nat} {o2 : Obj} (hb : Below ((w.alloc (.cells #[u1] t (0, 0))).alloc o2).heap.size ((w.alloc (.cells #[u1] t (0, 0))).alloc o2) w5) : w5.cell? ⟨w.heap.size, 0, none⟩ = some u1 :=
 (hb.cell (by simp; omega)).trans (Lib.cell?_alloc_some o2 (DG.cell_new w #[u1] t 0))
theorem impl_lotsOf.c2 {w w5 : World} {o1 : Obj} {u2 : Value} {t : Nat} (hb : Below ((w.alloc o1).alloc (.cells #[u2] t (0, 0))).heap.size ((w.alloc o1).alloc (.cells #[u2] t (0, 0))) w5) : w5.cell? ⟨w.heap.size + 1, 0, none⟩ = some u2 := by
 have e : (w.alloc o1).heap.size = w.heap.size + 1 := by simp
 have h := DG.cell_new (w.alloc o1) #[u2] t 0; rw [e] at h; exact (hb.cell (by simp)).trans h
theorem impl_lotsOf.own {w : World} {base : Nat} {ok : Nat → Prop} {v : Value} {xs : List (S37)} (h : Kd.R k37 37 w base ok v xs) (k : Nat) (hk : v.ownBlock = some k) : base ≤ k := by
 obtain ⟨hv, _⟩ | ⟨g, c, rfl⟩ := IN.R_cases h
 ·
  subst hv; simp [Value.ownBlock] at hk
 ·
  obtain ⟨_, _, _, n4, _, _⟩ := IN.R_raw delf37_flat h; simp [Value.ownBlock] at hk
  omega
theorem impl_lotsOf.predB {B1 B2 : Nat} {a1 a2 : Int} {w : World} (c1 : w.cell? ⟨B1, 0, none⟩ = some (.int .i64 a1)) (c2 : w.cell? ⟨B2, 0, none⟩ = some (.int .i64 a2)) :
 X0.FnB Try.prog 80 #[.pointer (some ⟨B1, 0, none⟩), .pointer (some ⟨B2, 0, none⟩)] w (fun x : S37 => .agg #[.int .i64 x.f0, .int .i64 x.f1, .int .i64 x.f2, .int .i64 x.f3, .int .i64 x.f4]) (fun x => !decide (x.f0 = a1 ∧ x.f1 = a2)) :=
 ⟨_, Try.func80, by kernel_rfl, rfl, fun x W hW => impl_lotsOf.clo B1 B2 a1 a2 x W ((hW.cell (World.block_lt_of_cell? w _ c1)).trans c1) ((hW.cell (World.block_lt_of_cell? w _ c2)).trans c2)⟩
theorem impl_lotsOf.predG {B1 B2 g : Nat} {a1 a2 : Int} {w : World} (c1 : w.cell? ⟨B1, 0, none⟩ = some (.int .i64 a1)) (c2 : w.cell? ⟨B2, 0, none⟩ = some (.int .i64 a2)) (n1 : B1 < g) (n2 : B2 < g) :
 DG.FnG Try.prog 80 #[.pointer (some ⟨B1, 0, none⟩), .pointer (some ⟨B2, 0, none⟩)] w g (fun x : S37 => .agg #[.int .i64 x.f0, .int .i64 x.f1, .int .i64 x.f2, .int .i64 x.f3, .int .i64 x.f4]) (fun x => !decide (x.f0 = a1 ∧ x.f1 = a2)) :=
 ⟨_, Try.func80, by kernel_rfl, rfl, fun x W hW => impl_lotsOf.clo B1 B2 a1 a2 x W (hW.cell c1 (by simp; omega)) (hW.cell c2 (by simp; omega))⟩
set_option maxHeartbeats 8000000 in
set_option maxRecDepth 100000 in
theorem impl_lotsOf.calls (A0 : Option Addr) (c0 : Nat) (l0 : List (S37)) (a1 a2 : Int) (r : List (S37)) (w : World) (hr0 : Kd.C k37 w A0 l0.length l0) (hc0 : l0.length ≤ c0) (h : impl_lotsOf.f l0 a1 a2 = some r) :
 Calls Try.prog 47 #[.slice A0 l0.length c0, .int .i64 a1, .int .i64 a2] w fun e w' => ∃ v0_ : Value, e = .returned (v0_) ∧ Kd.R k37 37 w' w.heap.size (fun _ => True) v0_ r ∧ Below w.heap.size w w' := by
 unfold impl_lotsOf.f at h
 by_cases hl : l0.length < 1048577
 ·
  rw [if_pos hl] at h; obtain rfl := Option.some.inj h; clear h
  have hcl : impl_Lot_55.f l0 = some l0 := by
   unfold impl_Lot_55.f
   rw [Option.bind_some, List.length_nil, if_pos (by omega), List.nil_append]
  have HC := Aside0.mk hcl; have HR0 := Aside0.mk hr0; have HC0 := Aside0.mk hc0; have HB := Aside0.mk (Below.refl w.heap.size w); have HL := Aside0.mk hl; clear hr0 hc0 hcl hl; go_enter Try.func47, Try.ntmps47; go_wp2_with (first | (go_at_call 55; refine (impl_Lot_55.calls A0 c0 l0 l0 _ (Kd.C_alloc (Kd.C_alloc HR0.out _) _) HC0.out HC.out).mono ?_; rintro e w5 ⟨v, rfl, ho, hb⟩; have HO := Aside0.mk ho; have HB5 := Aside0.mk hb; clear ho hb) | (go_at_call 79; refine (DeleteFunc_st37.calls _ _ v l0 80 #[.pointer (some ⟨w.heap.size, 0, none⟩), .pointer (some ⟨w.heap.size + 1, 0, none⟩)] (fun x => !decide (x.f0 = a1 ∧ x.f1 = a2)) _ HO.out HL.out (impl_lotsOf.predB (impl_lotsOf.c1 HB5.out) (impl_lotsOf.c2 HB5.out)) (fun g _ hg => impl_lotsOf.predG (impl_lotsOf.c1 HB5.out) (impl_lotsOf.c2 HB5.out) (impl_lotsOf.lt1 hg) (impl_lotsOf.lt2 hg))).mono ?_; rintro e w6 ⟨v6, rfl, ho, hg⟩; have HO6 := Aside0.mk ho; have HG6 := Aside0.mk hg; clear ho hg))
  go_ret; have hsz := impl_lotsOf.up w (.cells #[.int .i64 a1] 3 (0, 0)) (.cells #[.int .i64 a2] 3 (0, 0)); refine ⟨v6, rs_, ?_, ?_⟩
  ·
   have hR := Kd.R_lower HO6.out hsz; have e : (l0.filter fun x => !(!decide (x.f0 = a1 ∧ x.f1 = a2))) = l0.filter fun x => decide (x.f0 = a1 ∧ x.f1 = a2) := by simp only [Bool.not_not]
   rw [e] at hR; exact hR
  ·
   have hb5 := below_step (below_alloc (below_alloc (Below.refl _ _) _) _) HB5.out; exact hb5.grown HG6.out (below_size hb5) (fun k hk => Nat.le_trans hsz (impl_lotsOf.own HO.out k hk))
 ·
  rw [if_neg hl] at h; cases h
def impl_AmountOk.f (a0 : Int) : Option (Bool) := (impl_in.f a0 (-1000000000000000) 1000000000000000).bind fun t154 => (some t154)
set_option maxHeartbeats 8000000 in
set_option maxRecDepth 100000 in
theorem impl_AmountOk.calls (a0 : Int) (r : Bool) (w : World) (h : impl_AmountOk.f a0 = some r) :
 Calls Try.prog 48 #[.int .i64 a0] w fun e w' => e = .returned (.bool r) ∧ Drawn0 w w' := by
 have H : ((impl_in.f a0 (-1000000000000000) 1000000000000000).bind fun t154 => (some t154)) = some r := h; clear h; replace H := Option.bind_eq_some_iff.mp H; obtain ⟨t154, A20, H⟩ := H; have A2 := Aside0.mk A20; clear A20; obtain rfl := Option.some.inj H; go_enter Try.func48, Try.ntmps48; go_wp2_with (first | ((with_reducible refine gate_callee (f := 65) rfl ?_); refine goesL_ (some 4) rfl rfl Try.func65 kr_ rfl #[.int .i64 a0, .int .i64 (-1000000000000000), .int .i64 1000000000000000] rfl (bc_) ?_; (with_reducible refine (impl_in.calls a0 (-1000000000000000) 1000000000000000 t154 _ A2.out).mono ?_); rintro e w' ⟨rfl, ⟨nd, rfl⟩⟩; refine ⟨_, rfl, ?_⟩))
 go_ret; exact ⟨rs_, dr_⟩
end Go.Proofs.Ytomanpmffjkkgaa.P
