/- What the law FnWays leans on, cut out of this repo's own texts by a program of this repo: plain functions, the walks that tie the Go calls to them, the law over lists and numbers, and the row. -/
import Derived.Test.YtomanpmffjkkgaaZFnWays3
namespace Go.Proofs.Ytomanpmffjkkgaa.P
open Go.RowKit Go.Proofs.YtomanpmffjkkgaaW.PrintWords Go.Proofs.YtomanpmffjkkgaaW.PrintLast Go.Proofs.YtomanpmffjkkgaaW.PrintMore
attribute [local go_sem] max2_int min2_int max_two min_two max_three min_three max_four min_four   -- for this text's walks alone
set_option linter.unusedVariables false
set_option linter.unusedSimpArgs false
mutual
def spec_LotTake.j0 : Nat → List (S37) → Int → Int → Int → Int → Bool → Option ((List (S37)) × Int × Int)
 | 0, _, _, _, _, _, _ => none
 | k + 1, x0, x1, x2, x3, x4, x36 => if x36 = true then (some ((([] : List (S37))), 0, 1)) else ((spec_l5Split.f k x0 x1 x2).bind fun bt592 => ((spec_l5Qty.f k bt592.1).bind fun t598 => (if t598 < x3 then ((some (([] : List (S37)) : List (S37))).bind fun y599 => (if y599.length + x0.length < 3518437208883 then (some ((y599 ++ x0), 0, 2)) else (none))) else (if x4 = 3 then ((spec_l5Mean.f k bt592.1 x3).bind fun bt605 => ((spec_l5Merge.f k bt592.2 bt605.1).bind fun t609 => (some (t609, bt605.2, 0)))) else (spec_LotTake.l0 k x3 x4 bt592.1 bt592.2 0)))))
def spec_LotTake.l0 : Nat → Int → Int → List (S37) → List (S37) → Int → Option ((List (S37)) × Int × Int)
 | 0, _, _, _, _, _ => none
 | k + 1, x3, x4, x13, x14, x17 => if x3 > 0 then (if x4 = 2 then (spec_LotTake.j2 k x3 x4 x13 x14 x17 (wrap64 ((x13.length : Int) - 1))) else (spec_LotTake.j2 k x3 x4 x13 x14 x17 0)) else ((spec_l5Merge.f k x14 x13).bind fun t612 => (some (t612, x17, 0)))
def spec_LotTake.j2 : Nat → Int → Int → List (S37) → List (S37) → Int → Int → Option ((List (S37)) × Int × Int)
 | 0, _, _, _, _, _, _ => none
 | k + 1, x3, x4, x13, x14, x17, x18 => if 0 ≤ x18 then (if x18 < (x13.length : Int) then ((spec_l1Min.f ((rd_T37 x13 x18).f3) x3).bind fun t617 => ((spec_MulDiv.f k ((rd_T37 x13 x18).f4) t617 ((rd_T37 x13 x18).f3)).bind fun bt618 => ((some (x13.set (x18 : Int).toNat (⟨(rd_T37 x13 x18).f0, (rd_T37 x13 x18).f1, (rd_T37 x13 x18).f2, wrap64 (((rd_T37 x13 x18).f3) - t617), (rd_T37 x13 x18).f4⟩ : S37) : List (S37))).bind fun y621 => ((some (y621.set (x18 : Int).toNat (⟨(rd_T37 y621 x18).f0, (rd_T37 y621 x18).f1, (rd_T37 y621 x18).f2, (rd_T37 y621 x18).f3, wrap64 (((rd_T37 x13 x18).f4) - bt618.1)⟩ : S37) : List (S37))).bind fun y622 => (if ((rd_T37 y622 x18).f3) = 0 then ((some (([] : List (S37)) : List (S37))).bind fun y624 => (if x18 ≤ (x13.length : Int) then ((some (y622.take (x18 : Int).toNat : List (S37))).bind fun y627 => (if y624.length + y627.length < 3518437208883 then ((some (y624 ++ y627 : List (S37))).bind fun y631 => (if 0 ≤ (wrap64 (x18 + 1)) then (if (wrap64 (x18 + 1)) ≤ (x13.length : Int) then ((some (y622.drop ((wrap64 (x18 + 1)) : Int).toNat : List (S37))).bind fun y634 => (if y631.length + y634.length < 3518437208883 then (spec_LotTake.l0 k (wrap64 (x3 - t617)) x4 (y631 ++ y634) x14 (wrap64 (x17 + bt618.1))) else (none))) else (none)) else (none))) else (none))) else (none))) else (spec_LotTake.l0 k (wrap64 (x3 - t617)) x4 y622 x14 (wrap64 (x17 + bt618.1)))))))) else (none)) else (none)
end
def spec_LotTake.f (k : Nat) (l0 : List (S37)) (a1 : Int) (a2 : Int) (a3 : Int) (a4 : Int) : Option ((List (S37)) × Int × Int) := (spec_LotsOk.f k l0).bind fun t586 => (if t586 = true then ((spec_l1Some.f a3 1).bind fun t587 => (if t587 = true then ((spec_l1In.f a4 1 3).bind fun t588 => (spec_LotTake.j0 k l0 a1 a2 a3 a4 (!t588))) else (spec_LotTake.j0 k l0 a1 a2 a3 a4 true))) else (spec_LotTake.j0 k l0 a1 a2 a3 a4 true))
def spec_LotTake.T22 : Bool × List (List Nat × List Nat) := (true, [([], []), ([], []), ([], []), ([1, 2], [1, 2]), ([0, 3], [0, 3]), ([], []), ([], []), ([6], [6]), ([5, 7], [5, 7]), ([4, 8, 4], [4, 8]), ([9, 9, 0, 1, 2, 3, 4, 5, 6, 7, 8, 9], [1, 5, 9])])
def spec_LotTake.B22 : List Nat := [0, 0, 0, 6, 15, 0, 0, 64, 224, 511, 1023]
theorem spec_LotTake.tab22 : rtab .any (opsOf Try.f33 22) = spec_LotTake.T22 := by kernel_rfl
theorem spec_LotTake.bits22 : waitsOk spec_LotTake.T22.2 spec_LotTake.B22 = true := by kernel_rfl
set_option maxHeartbeats 8000000 in
set_option maxRecDepth 100000 in
theorem spec_LotTake.calls (k : Nat) (A0 : Option Addr) (c0 : Nat) (l0 : List (S37)) (a1 : Int) (a2 : Int) (a3 : Int) (a4 : Int) (r1 : List (S37)) (r2 : Int) (r3 : Int) (w : World) (hr0 : Kd.C k37 w A0 l0.length l0) (hc0 : l0.length ≤ c0) (h : spec_LotTake.f k l0 a1 a2 a3 a4 = some (r1, r2, r3)) :
 Calls Try.prog 33 #[.slice A0 l0.length c0, .int .i64 a1, .int .i64 a2, .int .i64 a3, .int .i64 a4] w fun e w' => ∃ v0_ : Value, e = .returned (.tuple #[v0_, .int .i64 r2, .int .i64 r3]) ∧ Kd.R k37 37 w' w.heap.size (fun _ => True) v0_ r1 ∧ Below w.heap.size w w' := by
 have hu37 := Try.underlying37
 have HR0 := Aside0.mk hr0
 have HC0 := Aside0.mk hc0
 clear hr0 hc0
 have HB := Aside0.mk (Below.refl w.heap.size w)
 have H : ((spec_LotsOk.f k l0).bind fun t586 => (if t586 = true then ((spec_l1Some.f a3 1).bind fun t587 => (if t587 = true then ((spec_l1In.f a4 1 3).bind fun t588 => (spec_LotTake.j0 k l0 a1 a2 a3 a4 (!t588))) else (spec_LotTake.j0 k l0 a1 a2 a3 a4 true))) else (spec_LotTake.j0 k l0 a1 a2 a3 a4 true))) = some (r1, r2, r3) := h
 clear h
 have HC6 := Aside0.mk H
 clear H
 go_enter Try.func33, Try.ntmps33
 go_upto_region 1 with (fail)
 go_cut [36] (fun v36 wc => ∃ (kq : Nat) (x36_5 : Bool), v36 = .bool x36_5 ∧ Aside0 (spec_LotTake.j0 kq l0 a1 a2 a3 a4 x36_5 = some (r1, r2, r3)) ∧ Aside0 (kq ≤ k) ∧ Aside0 (Below w.heap.size w wc))
 case first =>
  have H := HC6.out
  clear HC6
  replace H := Option.bind_eq_some_iff.mp H
  obtain ⟨t586, A70, H⟩ := H
  replace H : (if t586 = true then ((spec_l1Some.f a3 1).bind fun t587 => (if t587 = true then ((spec_l1In.f a4 1 3).bind fun t588 => (spec_LotTake.j0 k l0 a1 a2 a3 a4 (!t588))) else (spec_LotTake.j0 k l0 a1 a2 a3 a4 true))) else (spec_LotTake.j0 k l0 a1 a2 a3 a4 true)) = some (r1, r2, r3) := H
  have A7 := Aside0.mk A70
  clear A70
  by_cases c8 : t586 = true
  ·
   subst c8
   have H1 : ((spec_l1Some.f a3 1).bind fun t587 => (if t587 = true then ((spec_l1In.f a4 1 3).bind fun t588 => (spec_LotTake.j0 k l0 a1 a2 a3 a4 (!t588))) else (spec_LotTake.j0 k l0 a1 a2 a3 a4 true))) = some (r1, r2, r3) := by rw [if_pos rfl] at H; exact H
   clear H
   have H := H1
   clear H1
   replace H := Option.bind_eq_some_iff.mp H
   obtain ⟨t587, A90, H⟩ := H
   replace H : (if t587 = true then ((spec_l1In.f a4 1 3).bind fun t588 => (spec_LotTake.j0 k l0 a1 a2 a3 a4 (!t588))) else (spec_LotTake.j0 k l0 a1 a2 a3 a4 true)) = some (r1, r2, r3) := H
   have A9 := Aside0.mk A90
   clear A90
   by_cases c10 : t587 = true
   ·
    subst c10
    have H1 : ((spec_l1In.f a4 1 3).bind fun t588 => (spec_LotTake.j0 k l0 a1 a2 a3 a4 (!t588))) = some (r1, r2, r3) := by rw [if_pos rfl] at H; exact H
    clear H
    have H := H1
    clear H1
    replace H := Option.bind_eq_some_iff.mp H
    obtain ⟨t588, A110, H⟩ := H
    replace H : (spec_LotTake.j0 k l0 a1 a2 a3 a4 (!t588)) = some (r1, r2, r3) := H
    have A11 := Aside0.mk A110
    clear A110
    have H' := Aside0.mk H
    clear H
    go_wp2_with (first | ((with_reducible refine gate_callee (f := 15) rfl ?_); refine goesL_ (some 25) rfl rfl Try.func15 kr_ rfl #[.slice A0 l0.length c0] rfl (bc_) ?_; (with_reducible refine (spec_LotsOk.calls k _ _ l0 true _ ?side1 ?side2 A7.out).mono ?_); (case side1 => repeat (first | exact (Kd.C_below HR0.out HB.out) | (with_reducible refine Kd.C_alloc ?_ _) | (with_reducible refine Kd.C_drewN ?_ _) | (with_reducible refine Kd.C_drew ?_))); (case side2 => exact HC0.out); rintro e w12 ⟨rfl, hb⟩; refine ⟨_, rfl, ?_⟩; have n0_ := Aside0.mk (below_step (bb_) hb); clear HB; have HB := n0_; clear n0_; (try clear hb); (try clear hb2); (try clear hk); (try clear hi)) | (go_at_call 60; (with_reducible refine (spec_l1Some.calls a3 1 true _ A9.out).mono ?_); rintro e w' ⟨rfl, ⟨nd, rfl⟩⟩) | (go_at_call 61; (with_reducible refine (spec_l1In.calls a4 1 3 t588 _ A11.out).mono ?_); rintro e w' ⟨rfl, ⟨nd, rfl⟩⟩))
    go_meet
    case rel => exact ⟨_, (!t588), (by first | rfl | (simp; done) | (simp [*]; done)), H', ⟨by first | omega | exact Nat.le_refl _⟩, ⟨bb_⟩⟩
   ·
    replace c10 := Bool.eq_false_iff.mpr c10
    subst c10
    have H1 : (spec_LotTake.j0 k l0 a1 a2 a3 a4 true) = some (r1, r2, r3) := by rw [if_neg (show ¬ (false = true) by decide)] at H; exact H
    clear H
    have H := H1
    clear H1
    have H' := Aside0.mk H
    clear H
    go_wp2_with (first | ((with_reducible refine gate_callee (f := 15) rfl ?_); refine goesL_ (some 25) rfl rfl Try.func15 kr_ rfl #[.slice A0 l0.length c0] rfl (bc_) ?_; (with_reducible refine (spec_LotsOk.calls k _ _ l0 true _ ?side1 ?side2 A7.out).mono ?_); (case side1 => repeat (first | exact (Kd.C_below HR0.out HB.out) | (with_reducible refine Kd.C_alloc ?_ _) | (with_reducible refine Kd.C_drewN ?_ _) | (with_reducible refine Kd.C_drew ?_))); (case side2 => exact HC0.out); rintro e w13 ⟨rfl, hb⟩; refine ⟨_, rfl, ?_⟩; have n0_ := Aside0.mk (below_step (bb_) hb); clear HB; have HB := n0_; clear n0_; (try clear hb); (try clear hb2); (try clear hk); (try clear hi)) | (go_at_call 60; (with_reducible refine (spec_l1Some.calls a3 1 false _ A9.out).mono ?_); rintro e w' ⟨rfl, ⟨nd, rfl⟩⟩))
    go_meet
    case rel => exact ⟨_, (true), (by first | rfl | (simp; done) | (simp [*]; done)), H', ⟨by first | omega | exact Nat.le_refl _⟩, ⟨bb_⟩⟩
  ·
   replace c8 := Bool.eq_false_iff.mpr c8
   subst c8
   have H1 : (spec_LotTake.j0 k l0 a1 a2 a3 a4 true) = some (r1, r2, r3) := by rw [if_neg (show ¬ (false = true) by decide)] at H; exact H
   clear H
   have H := H1
   clear H1
   have H' := Aside0.mk H
   clear H
   go_wp2_with (first | ((with_reducible refine gate_callee (f := 15) rfl ?_); refine goesL_ (some 25) rfl rfl Try.func15 kr_ rfl #[.slice A0 l0.length c0] rfl (bc_) ?_; (with_reducible refine (spec_LotsOk.calls k _ _ l0 false _ ?side1 ?side2 A7.out).mono ?_); (case side1 => repeat (first | exact (Kd.C_below HR0.out HB.out) | (with_reducible refine Kd.C_alloc ?_ _) | (with_reducible refine Kd.C_drewN ?_ _) | (with_reducible refine Kd.C_drew ?_))); (case side2 => exact HC0.out); rintro e w14 ⟨rfl, hb⟩; refine ⟨_, rfl, ?_⟩; have n0_ := Aside0.mk (below_step (bb_) hb); clear HB; have HB := n0_; clear n0_; (try clear hb); (try clear hb2); (try clear hk); (try clear hi)))
   go_meet
   case rel => exact ⟨_, (true), (by first | rfl | (simp; done) | (simp [*]; done)), H', ⟨by first | omega | exact Nat.le_refl _⟩, ⟨bb_⟩⟩
 case rest =>
  clear HC6
  try clear c1
  try clear p2
  try clear c3
  try clear c8
  try clear c10
  obtain ⟨kq, x36_5, rfl, HA, HJ5, HB⟩ := hcut
  cases kq with
  | zero => exact absurd HA.out (by simp [spec_LotTake.j0])
  | succ kj5 =>
   have H := HA.out
   clear HA
   simp only [spec_LotTake.j0] at H
   by_cases c15 : x36_5 = true
   ·
    subst c15
    have H1 : (some ((([] : List (S37))), 0, 1)) = some (r1, r2, r3) := by rw [if_pos rfl] at H; exact H
    clear H
    have H := H1
    clear H1
    obtain ⟨y589, hy589⟩ : ∃ y_ : List (S37), y_ = (([] : List (S37))) := ⟨_, rfl⟩
    replace H : (some (y589, 0, 1)) = some (r1, r2, r3) := by first | (rw [hy589]; with_reducible exact H) | (have H2_ := (Option.bind_some _ _).symm.trans H; rw [hy589]; with_reducible exact H2_) | (have H2_ := (Option.bind_some _ _).symm.trans H; with_reducible exact H2_) | with_reducible exact H | (rw [hy589]; exact H) | exact H
    have Ny589 := Aside0.mk hy589
    clear hy589
    simp only [Option.some.injEq, Prod.mk.injEq] at H
    obtain ⟨rfl, rfl, rfl⟩ := H
    go_wp2_with (first | ((with_reducible refine gate_dst (N := 37) rfl ?_); refine Kd.R_lit k37 _ 37 ?hg (N := 37) ?hd (xs := ([] : List (S37))) (inner := []) (ok := fun _ => True) (okp := fun _ => True) ?hr ?hp (fun _ hk => hk) trivial (Below.refl _ _) (Nat.le_refl _) (by simp) ?_; (case hd => rfl); (case hg => rfl); (case hr => first | (go_simp; done) | (go_simp; rfl)); (case hp => exact (Reps.none _ _)); intro v590 w16 ho17 hb hg_ hnew_; clear hg_ hnew_; (first | rw [← Ny589.out] at ho17 | (simp only [Int.reduceToNat] at ho17; rw [← Ny589.out] at ho17)); have n0_ := Aside0.mk (Kd.R_lower ho17 (below_size (bb_))); have n1_ := Aside0.mk (below_step (bb_) hb); clear HB; have HO591 := n0_; have HB := n1_; clear n0_ n1_; clear hb ho17))
    go_ret3
    exact ⟨_, er_, by (with_reducible repeat (first | apply Kd.R_alloc | apply Kd.R_drewN | apply Kd.R_drew)); exact HO591.out, bb_⟩
   ·
    replace c15 := Bool.eq_false_iff.mpr c15
    subst c15
    have H1 : ((spec_l5Split.f kj5 l0 a1 a2).bind fun bt592 => ((spec_l5Qty.f kj5 bt592.1).bind fun t598 => (if t598 < a3 then ((some (([] : List (S37)) : List (S37))).bind fun y599 => (if y599.length + l0.length < 3518437208883 then (some ((y599 ++ l0), 0, 2)) else (none))) else (if a4 = 3 then ((spec_l5Mean.f kj5 bt592.1 a3).bind fun bt605 => ((spec_l5Merge.f kj5 bt592.2 bt605.1).bind fun t609 => (some (t609, bt605.2, 0)))) else (spec_LotTake.l0 kj5 a3 a4 bt592.1 bt592.2 0))))) = some (r1, r2, r3) := by rw [if_neg (show ¬ (false = true) by decide)] at H; exact H
    clear H
    have H := H1
    clear H1
    replace H := Option.bind_eq_some_iff.mp H
    obtain ⟨⟨t592, t593⟩, A180, H⟩ := H
    replace H : ((spec_l5Qty.f kj5 t592).bind fun t598 => (if t598 < a3 then ((some (([] : List (S37)) : List (S37))).bind fun y599 => (if y599.length + l0.length < 3518437208883 then (some ((y599 ++ l0), 0, 2)) else (none))) else (if a4 = 3 then ((spec_l5Mean.f kj5 t592 a3).bind fun bt605 => ((spec_l5Merge.f kj5 t593 bt605.1).bind fun t609 => (some (t609, bt605.2, 0)))) else (spec_LotTake.l0 kj5 a3 a4 t592 t593 0)))) = some (r1, r2, r3) := H
    have A18 := Aside0.mk A180
    clear A180
    replace H := Option.bind_eq_some_iff.mp H
    obtain ⟨t598, A190, H⟩ := H
    replace H : (if t598 < a3 then ((some (([] : List (S37)) : List (S37))).bind fun y599 => (if y599.length + l0.length < 3518437208883 then (some ((y599 ++ l0), 0, 2)) else (none))) else (if a4 = 3 then ((spec_l5Mean.f kj5 t592 a3).bind fun bt605 => ((spec_l5Merge.f kj5 t593 bt605.1).bind fun t609 => (some (t609, bt605.2, 0)))) else (spec_LotTake.l0 kj5 a3 a4 t592 t593 0))) = some (r1, r2, r3) := H
    have A19 := Aside0.mk A190
    clear A190
    by_cases c20 : t598 < a3
    ·
     rw [if_pos c20] at H
     have c20b0 : decide (t598 < a3) = true := decide_eq_true c20
     clear c20
     obtain ⟨y599, hy599⟩ : ∃ y_ : List (S37), y_ = (([] : List (S37))) := ⟨_, rfl⟩
     replace H : (if y599.length + l0.length < 3518437208883 then (some ((y599 ++ l0), 0, 2)) else (none)) = some (r1, r2, r3) := by first | (rw [hy599]; with_reducible exact H) | (have H2_ := (Option.bind_some _ _).symm.trans H; rw [hy599]; with_reducible exact H2_) | (have H2_ := (Option.bind_some _ _).symm.trans H; with_reducible exact H2_) | with_reducible exact H | (rw [hy599]; exact H) | exact H
     have Ny599 := Aside0.mk hy599
     clear hy599
     by_cases c21 : y599.length + l0.length < 3518437208883
     ·
      rw [if_pos c21] at H
      have LMc21 := Aside0.mk c21
      clear c21
      obtain ⟨y602, hy602⟩ : ∃ y_ : List (S37), y_ = (y599 ++ l0) := ⟨_, rfl⟩
      replace H : (some (y602, 0, 2)) = some (r1, r2, r3) := by first | (rw [hy602]; with_reducible exact H) | (have H2_ := (Option.bind_some _ _).symm.trans H; rw [hy602]; with_reducible exact H2_) | (have H2_ := (Option.bind_some _ _).symm.trans H; with_reducible exact H2_) | with_reducible exact H | (rw [hy602]; exact H) | exact H
      have Ny602 := Aside0.mk hy602
      clear hy602
      simp only [Option.some.injEq, Prod.mk.injEq] at H
      obtain ⟨rfl, rfl, rfl⟩ := H
      go_wp2_with (first | ((with_reducible refine gate_callee (f := 52) rfl ?_); refine goesL_ (some 42) rfl rfl Try.func52 kr_ rfl #[.slice A0 l0.length c0, .int .i64 a1, .int .i64 a2] rfl (bc_) ?_; (with_reducible refine (spec_l5Split.calls kj5 _ _ l0 a1 a2 t592 t593 _ ?side1 ?side2 A18.out).mono ?_); (case side1 => repeat (first | exact (Kd.C_below HR0.out HB.out) | (with_reducible refine Kd.C_alloc ?_ _) | (with_reducible refine Kd.C_drewN ?_ _) | (with_reducible refine Kd.C_drew ?_))); (case side2 => exact HC0.out); rintro e w22 ⟨v594, v596, rfl, ho0, ho1, hb⟩; refine ⟨_, rfl, ?_⟩; have n0_ := Aside0.mk (Kd.R_lower ho0 (below_size (bb_))); have n1_ := Aside0.mk (Kd.R_lower ho1 (below_size (bb_))); have n2_ := Aside0.mk (below_step (bb_) hb); clear HB; have HO595 := n0_; have HO597 := n1_; have HB := n2_; clear n0_ n1_ n2_; (try clear hb); (try clear hb2); (try clear hk); (try clear hi); (try clear ho0); (try clear ho1); obtain ⟨Ao23, co23, eo23⟩ := Kd.R_slice HO595.out; subst eo23) | ((with_reducible refine gate_callee (f := 50) rfl ?_); refine goesL_ (some 46) rfl rfl Try.func50 kr_ rfl #[.slice Ao23 t592.length co23] rfl (bc_) ?_; (with_reducible refine (spec_l5Qty.calls kj5 _ _ t592 t598 _ ?side1 ?side2 A19.out).mono ?_); (case side1 => repeat (first | exact (Kd.R_reads' HO595.out).2.2 | (with_reducible refine Kd.C_alloc ?_ _) | (with_reducible refine Kd.C_drewN ?_ _) | (with_reducible refine Kd.C_drew ?_))); (case side2 => exact (Kd.R_reads' HO595.out).2.1); rintro e w' ⟨rfl, ⟨nd, rfl⟩⟩; refine ⟨_, rfl, ?_⟩) | ((with_reducible refine gate_dst (N := 49) rfl ?_); refine Kd.R_lit k37 _ 37 ?hg (N := 49) ?hd (xs := ([] : List (S37))) (inner := []) (ok := fun _ => True) (okp := fun _ => True) ?hr ?hp (fun _ hk => hk) trivial (Below.refl _ _) (Nat.le_refl _) (by simp) ?_; (case hd => rfl); (case hg => rfl); (case hr => first | (go_simp; done) | (go_simp; rfl)); (case hp => exact (Reps.none _ _)); intro v600 w24 ho25 hb hg_ hnew_; clear hg_ hnew_; (first | rw [← Ny599.out] at ho25 | (simp only [Int.reduceToNat] at ho25; rw [← Ny599.out] at ho25)); have n0_ := Aside0.mk (Kd.R_elder' (pe_ HO595.out) (Kd.R_base ho25) hb); have n1_ := Aside0.mk (Kd.R_elder' (pe_ HO597.out) (Kd.R_base ho25) hb); have n2_ := Aside0.mk (Kd.R_lower (Kd.R_new' (Kd.R_new' ho25 (Kd.R_lt (pe_ HO595.out))) (Kd.R_lt (pe_ HO597.out))) (below_size (bb_))); have n3_ := Aside0.mk (below_step (bb_) hb); clear HO595; clear HO597; clear HB; have HO595 := n0_; have HO597 := n1_; have HO601 := n2_; have HB := n3_; clear n0_ n1_ n2_ n3_; clear hb ho25) | ((with_reducible refine gate_builtin (b := .append) (xs := #[.tmp 49, .tmp 50]) rfl ?_); at_builtin; refine Kd.R_append_rows k37 (w0 := w) w.heap.size rfl (.tmp 49) (.tmp 50) 25 37 (.agg #[(.int .i64 0), (.int .i64 0), (.int .i64 0), (.int .i64 0), (.int .i64 0)]) 40 rfl Try.underlying25 info37 rfl (by decide) (by omega) v600 y599 l0 _ _ _ (fun k_ => some k_ ≠ (.slice Ao23 t592.length co23 : Value).ownBlock ∧ some k_ ≠ (v596 : Value).ownBlock) (fun _ => False) rfl rfl ?aO ?aR (fun _ _ h => h) (fun _ h => h.elim) ?aF ?aB ?aS ?aL ?_; (case aR => repeat (first | exact (Kd.C_below HR0.out HB.out) | (with_reducible refine Kd.C_alloc ?_ _) | (with_reducible refine Kd.C_drewN ?_ _) | (with_reducible refine Kd.C_drew ?_))); (case aB => exact (bb_)); (case aF => exact (fun k_ hk => ⟨Kd.fresh' (Kd.R_lt (pe_ HO595.out)) k_ hk, Kd.fresh' (Kd.R_lt (pe_ HO597.out)) k_ hk⟩)); (case aO => exact (by (with_reducible repeat (first | apply Kd.R_alloc | apply Kd.R_drewN | apply Kd.R_drew)); exact Kd.R_mono HO601.out (fun _ hk => ⟨hk.1.2, hk.2⟩))); (case aS => exact (below_size (bb_))); (case aL => have := LMc21.out; omega); intro v603 w26 ho hb hg hat; rw [← Ny602.out] at ho; have n0_ := Aside0.mk (Kd.R_after (ok := (fun k_ => some k_ ≠ (v596 : Value).ownBlock)) (pe_ HO595.out) hg hat); have n1_ := Aside0.mk (Kd.R_after (ok := (fun k_ => some k_ ≠ (.slice Ao23 t592.length co23 : Value).ownBlock)) (pe_ HO597.out) hg hat); have n2_ := Aside0.mk (hb); have n3_ := Aside0.mk (ho); clear HO595; clear HO597; clear HB; clear HO601; have HO595 := n0_; have HO597 := n1_; have HB := n2_; have HO604 := n3_; clear n0_ n1_ n2_ n3_; clear ho hb hg hat))
      go_ret3
      exact ⟨_, er_, by (with_reducible repeat (first | apply Kd.R_alloc | apply Kd.R_drewN | apply Kd.R_drew)); exact Kd.R_mono HO604.out (fun _ hk => trivial), bb_⟩
     ·
      rw [if_neg c21] at H
      exact absurd H (by simp)
    ·
     rw [if_neg c20] at H
     have c20b0 : decide (t598 < a3) = false := decide_eq_false c20
     clear c20
     by_cases c27 : a4 = 3
     ·
      rw [if_pos c27] at H
      have c27b0 : (a4 == 3) = true := beq_iff_eq.mpr c27
      have c27b1 : (a4 != 3) = false := bne_eq_false_iff_eq.mpr c27
      clear c27
      replace H := Option.bind_eq_some_iff.mp H
      obtain ⟨⟨t605, t606⟩, A280, H⟩ := H
      replace H : ((spec_l5Merge.f kj5 t593 t605).bind fun t609 => (some (t609, t606, 0))) = some (r1, r2, r3) := H
      have A28 := Aside0.mk A280
      clear A280
      replace H := Option.bind_eq_some_iff.mp H
      obtain ⟨t609, A290, H⟩ := H
      replace H : (some (t609, t606, 0)) = some (r1, r2, r3) := H
      have A29 := Aside0.mk A290
      clear A290
      simp only [Option.some.injEq, Prod.mk.injEq] at H
      obtain ⟨rfl, rfl, rfl⟩ := H
      go_wp2_with (first | ((with_reducible refine gate_callee (f := 52) rfl ?_); refine goesL_ (some 42) rfl rfl Try.func52 kr_ rfl #[.slice A0 l0.length c0, .int .i64 a1, .int .i64 a2] rfl (bc_) ?_; (with_reducible refine (spec_l5Split.calls kj5 _ _ l0 a1 a2 t592 t593 _ ?side1 ?side2 A18.out).mono ?_); (case side1 => repeat (first | exact (Kd.C_below HR0.out HB.out) | (with_reducible refine Kd.C_alloc ?_ _) | (with_reducible refine Kd.C_drewN ?_ _) | (with_reducible refine Kd.C_drew ?_))); (case side2 => exact HC0.out); rintro e w30 ⟨v594, v596, rfl, ho0, ho1, hb⟩; refine ⟨_, rfl, ?_⟩; have n0_ := Aside0.mk (Kd.R_lower ho0 (below_size (bb_))); have n1_ := Aside0.mk (Kd.R_lower ho1 (below_size (bb_))); have n2_ := Aside0.mk (below_step (bb_) hb); clear HB; have HO595 := n0_; have HO597 := n1_; have HB := n2_; clear n0_ n1_ n2_; (try clear hb); (try clear hb2); (try clear hk); (try clear hi); (try clear ho0); (try clear ho1); obtain ⟨Ao31, co31, eo31⟩ := Kd.R_slice HO595.out; subst eo31) | ((with_reducible refine gate_callee (f := 50) rfl ?_); refine goesL_ (some 46) rfl rfl Try.func50 kr_ rfl #[.slice Ao31 t592.length co31] rfl (bc_) ?_; (with_reducible refine (spec_l5Qty.calls kj5 _ _ t592 t598 _ ?side1 ?side2 A19.out).mono ?_); (case side1 => repeat (first | exact (Kd.R_reads' HO595.out).2.2 | (with_reducible refine Kd.C_alloc ?_ _) | (with_reducible refine Kd.C_drewN ?_ _) | (with_reducible refine Kd.C_drew ?_))); (case side2 => exact (Kd.R_reads' HO595.out).2.1); rintro e w' ⟨rfl, ⟨nd, rfl⟩⟩; refine ⟨_, rfl, ?_⟩) | ((with_reducible refine gate_callee (f := 62) rfl ?_); refine goesL_ (some 57) rfl rfl Try.func62 kr_ rfl #[.slice Ao31 t592.length co31, .int .i64 a3] rfl (bc_) ?_; (with_reducible refine (spec_l5Mean.calls kj5 _ _ t592 a3 t605 t606 _ ?side1 ?side2 A28.out).mono ?_); (case side1 => repeat (first | exact (Kd.R_reads' HO595.out).2.2 | (with_reducible refine Kd.C_alloc ?_ _) | (with_reducible refine Kd.C_drewN ?_ _) | (with_reducible refine Kd.C_drew ?_))); (case side2 => exact (Kd.R_reads' HO595.out).2.1); rintro e w32 ⟨v607, rfl, ho0, hb⟩; refine ⟨_, rfl, ?_⟩; have n0_ := Aside0.mk (Kd.R_elder' (pe_ HO595.out) (Kd.R_base ho0) hb); have n1_ := Aside0.mk (Kd.R_elder' (pe_ HO597.out) (Kd.R_base ho0) hb); have n2_ := Aside0.mk (Kd.R_lower (Kd.R_new' (Kd.R_new' ho0 (Kd.R_lt (pe_ HO595.out))) (Kd.R_lt (pe_ HO597.out))) (below_size (bb_))); have n3_ := Aside0.mk (below_step (bb_) hb); clear HO595; clear HO597; clear HB; have HO595 := n0_; have HO597 := n1_; have HO608 := n2_; have HB := n3_; clear n0_ n1_ n2_ n3_; (try clear hb); (try clear hb2); (try clear hk); (try clear hi); (try clear ho0); obtain ⟨Ao33, co33, eo33⟩ := Kd.R_slice HO597.out; subst eo33; obtain ⟨Ao34, co34, eo34⟩ := Kd.R_slice HO608.out; subst eo34) | ((with_reducible refine gate_callee (f := 53) rfl ?_); refine goesL_ (some 62) rfl rfl Try.func53 kr_ rfl #[.slice Ao33 t593.length co33, .slice Ao34 t605.length co34] rfl (bc_) ?_; (with_reducible refine (spec_l5Merge.calls kj5 _ _ t593 _ _ t605 t609 _ ?side1 ?side2 ?side3 ?side4 A29.out).mono ?_); (case side1 => repeat (first | exact (Kd.R_reads' HO597.out).2.2 | (with_reducible refine Kd.C_alloc ?_ _) | (with_reducible refine Kd.C_drewN ?_ _) | (with_reducible refine Kd.C_drew ?_))); (case side2 => exact (Kd.R_reads' HO597.out).2.1); (case side3 => repeat (first | exact (Kd.R_reads' HO608.out).2.2 | (with_reducible refine Kd.C_alloc ?_ _) | (with_reducible refine Kd.C_drewN ?_ _) | (with_reducible refine Kd.C_drew ?_))); (case side4 => exact (Kd.R_reads' HO608.out).2.1); rintro e w35 ⟨v610, rfl, ho0, hb⟩; refine ⟨_, rfl, ?_⟩; have n0_ := Aside0.mk (Kd.R_elder' (pe_ HO595.out) (Kd.R_base ho0) hb); have n1_ := Aside0.mk (Kd.R_elder' (pe_ HO597.out) (Kd.R_base ho0) hb); have n2_ := Aside0.mk (Kd.R_elder' (pe_ HO608.out) (Kd.R_base ho0) hb); have n3_ := Aside0.mk (Kd.R_lower (Kd.R_new' (Kd.R_new' (Kd.R_new' ho0 (Kd.R_lt (pe_ HO595.out))) (Kd.R_lt (pe_ HO597.out))) (Kd.R_lt (pe_ HO608.out))) (below_size (bb_))); have n4_ := Aside0.mk (below_step (bb_) hb); clear HO595; clear HO597; clear HO608; clear HB; have HO595 := n0_; have HO597 := n1_; have HO608 := n2_; have HO611 := n3_; have HB := n4_; clear n0_ n1_ n2_ n3_ n4_; (try clear hb); (try clear hb2); (try clear hk); (try clear hi); (try clear ho0)))
      go_ret3
      exact ⟨_, er_, by (with_reducible repeat (first | apply Kd.R_alloc | apply Kd.R_drewN | apply Kd.R_drew)); exact Kd.R_mono HO611.out (fun _ hk => trivial), bb_⟩
     ·
      rw [if_neg c27] at H
      have c27b0 : (a4 == 3) = false := beq_eq_false_iff_ne.mpr c27
      have c27b1 : (a4 != 3) = true := bne_iff_ne.mpr c27
      have H' := Aside0.mk H
      clear H
      go_wp2_with (first | ((with_reducible refine gate_callee (f := 52) rfl ?_); refine goesL_ (some 42) rfl rfl Try.func52 kr_ rfl #[.slice A0 l0.length c0, .int .i64 a1, .int .i64 a2] rfl (bc_) ?_; (with_reducible refine (spec_l5Split.calls kj5 _ _ l0 a1 a2 t592 t593 _ ?side1 ?side2 A18.out).mono ?_); (case side1 => repeat (first | exact (Kd.C_below HR0.out HB.out) | (with_reducible refine Kd.C_alloc ?_ _) | (with_reducible refine Kd.C_drewN ?_ _) | (with_reducible refine Kd.C_drew ?_))); (case side2 => exact HC0.out); rintro e w36 ⟨v594, v596, rfl, ho0, ho1, hb⟩; refine ⟨_, rfl, ?_⟩; have n0_ := Aside0.mk (Kd.R_lower ho0 (below_size (bb_))); have n1_ := Aside0.mk (Kd.R_lower ho1 (below_size (bb_))); have n2_ := Aside0.mk (below_step (bb_) hb); clear HB; have HO595 := n0_; have HO597 := n1_; have HB := n2_; clear n0_ n1_ n2_; (try clear hb); (try clear hb2); (try clear hk); (try clear hi); (try clear ho0); (try clear ho1); obtain ⟨Ao37, co37, eo37⟩ := Kd.R_slice HO595.out; subst eo37) | ((with_reducible refine gate_callee (f := 50) rfl ?_); refine goesL_ (some 46) rfl rfl Try.func50 kr_ rfl #[.slice Ao37 t592.length co37] rfl (bc_) ?_; (with_reducible refine (spec_l5Qty.calls kj5 _ _ t592 t598 _ ?side1 ?side2 A19.out).mono ?_); (case side1 => repeat (first | exact (Kd.R_reads' HO595.out).2.2 | (with_reducible refine Kd.C_alloc ?_ _) | (with_reducible refine Kd.C_drewN ?_ _) | (with_reducible refine Kd.C_drew ?_))); (case side2 => exact (Kd.R_reads' HO595.out).2.1); rintro e w' ⟨rfl, ⟨nd, rfl⟩⟩; refine ⟨_, rfl, ?_⟩))
      go_loopg [3, 13, 17] kj5 (fun kq v3 v13 v17 w' => ∃ (x3_2 : Int) (x13_2 : List (S37)) (x14_2 : List (S37)) (x17_2 : Int), v3 = .int .i64 x3_2 ∧ v17 = .int .i64 x17_2 ∧ Aside0 (spec_LotTake.l0 kq x3_2 a4 x13_2 x14_2 x17_2 = some (r1, r2, r3)) ∧ Aside0 (kq ≤ kj5) ∧ Aside0 (Kd.R k37 37 w' w.heap.size (fun k_ => some k_ ≠ (v596 : Value).ownBlock) v13 x13_2) ∧ Aside0 (Kd.R k37 37 w' w.heap.size (fun k_ => some k_ ≠ (v13 : Value).ownBlock) v596 x14_2) ∧ Aside0 (Below w.heap.size w w'))
      case atStart => exact ⟨(a3), (t592), (t593), (0), (by first | rfl | (simp; done) | (simp [*]; done)), (by first | rfl | (simp; done) | (simp [*]; done)), H', ⟨Nat.le_refl _⟩, ⟨by (with_reducible repeat (first | apply Kd.R_alloc | apply Kd.R_drewN | apply Kd.R_drew)); exact HO595.out⟩, ⟨by (with_reducible repeat (first | apply Kd.R_alloc | apply Kd.R_drewN | apply Kd.R_drew)); exact HO597.out⟩, ⟨bb_⟩⟩
      case round =>
       clear H'
       try clear c1
       try clear c2
       try clear p2
       try clear c3
       try clear c5
       try clear c6
       try clear c8
       try clear c10
       try clear c15
       try clear c20
       try clear c20b0
       try clear c21
       try clear c27
       try clear c27b0
       try clear c27b1
       try clear c33
       try clear p2
       obtain ⟨x3_2, x13_2, x14_2, x17_2, rfl, rfl, HA, HK2, HO_13, HO_14, HB⟩ := hrel
       cases gk with
       | zero => exact absurd HA.out (by simp [spec_LotTake.l0])
       | succ k2 =>
        have H := HA.out
        clear HA
        simp only [spec_LotTake.l0] at H
        by_cases c38 : x3_2 > 0
        ·
         rw [if_pos c38] at H
         have c38b0 : decide (0 < x3_2) = true := decide_eq_true c38
         clear c38
         have HC39 := Aside0.mk H
         clear H
         go_upto_if 67 with (fail)
         go_cut [18] (fun v18 wc => ∃ (kq : Nat) (x18_38 : Int), v18 = .int .i64 x18_38 ∧ Aside0 (spec_LotTake.j2 kq x3_2 a4 x13_2 x14_2 x17_2 x18_38 = some (r1, r2, r3)) ∧ Aside0 (kq ≤ k2) ∧ Aside0 (Kd.R k37 37 wc w.heap.size (fun k_ => some k_ ≠ (v596 : Value).ownBlock) u13 x13_2) ∧ Aside0 (Kd.R k37 37 wc w.heap.size (fun k_ => some k_ ≠ (u13 : Value).ownBlock) v596 x14_2) ∧ Aside0 (Below w.heap.size w wc))
         case first =>
          have H := HC39.out
          clear HC39
          by_cases c40 : a4 = 2
          ·
           rw [if_pos c40] at H
           have c40b0 : (a4 == 2) = true := beq_iff_eq.mpr c40
           have c40b1 : (a4 != 2) = false := bne_eq_false_iff_eq.mpr c40
           clear c40
           (first | rw [c40b0] | (simp only [i64_w, i32_w]; rw [c40b0]) | skip)
           have H' := Aside0.mk H
           clear H
           obtain ⟨Ao41, co41, eo41⟩ := Kd.R_slice HO_13.out
           subst eo41
           go_wp2
           go_meet
           case rel => exact ⟨_, (wrap64 ((x13_2.length : Int) - 1)), (by first | rfl | (simp; done) | (simp [*]; done)), H', ⟨by have := HJ5.out; have := HK2.out; first | omega | exact Nat.le_refl _⟩, ⟨by (with_reducible repeat (first | apply Kd.R_alloc | apply Kd.R_drewN | apply Kd.R_drew)); exact HO_13.out⟩, ⟨by (with_reducible repeat (first | apply Kd.R_alloc | apply Kd.R_drewN | apply Kd.R_drew)); exact HO_14.out⟩, ⟨bb_⟩⟩
          ·
           rw [if_neg c40] at H
           have c40b0 : (a4 == 2) = false := beq_eq_false_iff_ne.mpr c40
           have c40b1 : (a4 != 2) = true := bne_iff_ne.mpr c40
           (first | rw [c40b0] | (simp only [i64_w, i32_w]; rw [c40b0]) | skip)
           have H' := Aside0.mk H
           clear H
           go_wp2
           go_meet
           case rel => exact ⟨_, (0), (by first | rfl | (simp; done) | (simp [*]; done)), H', ⟨by have := HJ5.out; have := HK2.out; first | omega | exact Nat.le_refl _⟩, ⟨by (with_reducible repeat (first | apply Kd.R_alloc | apply Kd.R_drewN | apply Kd.R_drew)); exact HO_13.out⟩, ⟨by (with_reducible repeat (first | apply Kd.R_alloc | apply Kd.R_drewN | apply Kd.R_drew)); exact HO_14.out⟩, ⟨bb_⟩⟩
         case rest =>
          clear HC39
          try clear c1
          try clear c2
          try clear p2
          try clear c3
          try clear c4
          try clear c5
          try clear c6
          try clear p6
          try clear c8
          try clear c10
          try clear c15
          try clear c20
          try clear c20b0
          try clear c21
          try clear c27
          try clear c27b0
          try clear c27b1
          try clear c33
          try clear c38
          try clear c38b0
          try clear c40
          try clear c40b0
          try clear c40b1
          try clear p2
          obtain ⟨kq, x18_38, rfl, HA, HJ38, HO_13, HO_14, HB⟩ := hcut
          cases kq with
          | zero => exact absurd HA.out (by simp [spec_LotTake.j2])
          | succ kj38 =>
           have H := HA.out
           clear HA
           simp only [spec_LotTake.j2] at H
           by_cases c42 : 0 ≤ x18_38
           ·
            rw [if_pos c42] at H
            have c42b0 : decide (0 ≤ x18_38) = true := decide_eq_true c42
            clear c42
            by_cases c43 : x18_38 < (x13_2.length : Int)
            ·
             rw [if_pos c43] at H
             have c43b0 : decide (x18_38 < (x13_2.length : Int)) = true := decide_eq_true c43
             clear c43
             replace H := Option.bind_eq_some_iff.mp H
             obtain ⟨t617, A440, H⟩ := H
             replace H : ((spec_MulDiv.f kj38 ((rd_T37 x13_2 x18_38).f4) t617 ((rd_T37 x13_2 x18_38).f3)).bind fun bt618 => ((some (x13_2.set (x18_38 : Int).toNat (⟨(rd_T37 x13_2 x18_38).f0, (rd_T37 x13_2 x18_38).f1, (rd_T37 x13_2 x18_38).f2, wrap64 (((rd_T37 x13_2 x18_38).f3) - t617), (rd_T37 x13_2 x18_38).f4⟩ : S37) : List (S37))).bind fun y621 => ((some (y621.set (x18_38 : Int).toNat (⟨(rd_T37 y621 x18_38).f0, (rd_T37 y621 x18_38).f1, (rd_T37 y621 x18_38).f2, (rd_T37 y621 x18_38).f3, wrap64 (((rd_T37 x13_2 x18_38).f4) - bt618.1)⟩ : S37) : List (S37))).bind fun y622 => (if ((rd_T37 y622 x18_38).f3) = 0 then ((some (([] : List (S37)) : List (S37))).bind fun y624 => (if x18_38 ≤ (x13_2.length : Int) then ((some (y622.take (x18_38 : Int).toNat : List (S37))).bind fun y627 => (if y624.length + y627.length < 3518437208883 then ((some (y624 ++ y627 : List (S37))).bind fun y631 => (if 0 ≤ (wrap64 (x18_38 + 1)) then (if (wrap64 (x18_38 + 1)) ≤ (x13_2.length : Int) then ((some (y622.drop ((wrap64 (x18_38 + 1)) : Int).toNat : List (S37))).bind fun y634 => (if y631.length + y634.length < 3518437208883 then (spec_LotTake.l0 kj38 (wrap64 (x3_2 - t617)) a4 (y631 ++ y634) x14_2 (wrap64 (x17_2 + bt618.1))) else (none))) else (none)) else (none))) else (none))) else (none))) else (spec_LotTake.l0 kj38 (wrap64 (x3_2 - t617)) a4 y622 x14_2 (wrap64 (x17_2 + bt618.1))))))) = some (r1, r2, r3) := H
             have A44 := Aside0.mk A440
             clear A440
             replace H := Option.bind_eq_some_iff.mp H
             obtain ⟨⟨t618, t619, t620⟩, A450, H⟩ := H
             replace H : ((some (x13_2.set (x18_38 : Int).toNat (⟨(rd_T37 x13_2 x18_38).f0, (rd_T37 x13_2 x18_38).f1, (rd_T37 x13_2 x18_38).f2, wrap64 (((rd_T37 x13_2 x18_38).f3) - t617), (rd_T37 x13_2 x18_38).f4⟩ : S37) : List (S37))).bind fun y621 => ((some (y621.set (x18_38 : Int).toNat (⟨(rd_T37 y621 x18_38).f0, (rd_T37 y621 x18_38).f1, (rd_T37 y621 x18_38).f2, (rd_T37 y621 x18_38).f3, wrap64 (((rd_T37 x13_2 x18_38).f4) - t618)⟩ : S37) : List (S37))).bind fun y622 => (if ((rd_T37 y622 x18_38).f3) = 0 then ((some (([] : List (S37)) : List (S37))).bind fun y624 => (if x18_38 ≤ (x13_2.length : Int) then ((some (y622.take (x18_38 : Int).toNat : List (S37))).bind fun y627 => (if y624.length + y627.length < 3518437208883 then ((some (y624 ++ y627 : List (S37))).bind fun y631 => (if 0 ≤ (wrap64 (x18_38 + 1)) then (if (wrap64 (x18_38 + 1)) ≤ (x13_2.length : Int) then ((some (y622.drop ((wrap64 (x18_38 + 1)) : Int).toNat : List (S37))).bind fun y634 => (if y631.length + y634.length < 3518437208883 then (spec_LotTake.l0 kj38 (wrap64 (x3_2 - t617)) a4 (y631 ++ y634) x14_2 (wrap64 (x17_2 + t618))) else (none))) else (none)) else (none))) else (none))) else (none))) else (spec_LotTake.l0 kj38 (wrap64 (x3_2 - t617)) a4 y622 x14_2 (wrap64 (x17_2 + t618)))))) = some (r1, r2, r3) := H
             have A45 := Aside0.mk A450
             clear A450
             obtain ⟨y621, hy621⟩ : ∃ y_ : List (S37), y_ = (x13_2.set (x18_38 : Int).toNat (⟨(rd_T37 x13_2 x18_38).f0, (rd_T37 x13_2 x18_38).f1, (rd_T37 x13_2 x18_38).f2, wrap64 (((rd_T37 x13_2 x18_38).f3) - t617), (rd_T37 x13_2 x18_38).f4⟩ : S37)) := ⟨_, rfl⟩
             replace H : ((some (y621.set (x18_38 : Int).toNat (⟨(rd_T37 y621 x18_38).f0, (rd_T37 y621 x18_38).f1, (rd_T37 y621 x18_38).f2, (rd_T37 y621 x18_38).f3, wrap64 (((rd_T37 x13_2 x18_38).f4) - t618)⟩ : S37) : List (S37))).bind fun y622 => (if ((rd_T37 y622 x18_38).f3) = 0 then ((some (([] : List (S37)) : List (S37))).bind fun y624 => (if x18_38 ≤ (x13_2.length : Int) then ((some (y622.take (x18_38 : Int).toNat : List (S37))).bind fun y627 => (if y624.length + y627.length < 3518437208883 then ((some (y624 ++ y627 : List (S37))).bind fun y631 => (if 0 ≤ (wrap64 (x18_38 + 1)) then (if (wrap64 (x18_38 + 1)) ≤ (x13_2.length : Int) then ((some (y622.drop ((wrap64 (x18_38 + 1)) : Int).toNat : List (S37))).bind fun y634 => (if y631.length + y634.length < 3518437208883 then (spec_LotTake.l0 kj38 (wrap64 (x3_2 - t617)) a4 (y631 ++ y634) x14_2 (wrap64 (x17_2 + t618))) else (none))) else (none)) else (none))) else (none))) else (none))) else (spec_LotTake.l0 kj38 (wrap64 (x3_2 - t617)) a4 y622 x14_2 (wrap64 (x17_2 + t618))))) = some (r1, r2, r3) := by first | (rw [hy621]; with_reducible exact H) | (have H2_ := (Option.bind_some _ _).symm.trans H; rw [hy621]; with_reducible exact H2_) | (have H2_ := (Option.bind_some _ _).symm.trans H; with_reducible exact H2_) | with_reducible exact H | (rw [hy621]; exact H) | exact H
             have Ny621 := Aside0.mk hy621
             clear hy621
             obtain ⟨y622, hy622⟩ : ∃ y_ : List (S37), y_ = (y621.set (x18_38 : Int).toNat (⟨(rd_T37 y621 x18_38).f0, (rd_T37 y621 x18_38).f1, (rd_T37 y621 x18_38).f2, (rd_T37 y621 x18_38).f3, wrap64 (((rd_T37 x13_2 x18_38).f4) - t618)⟩ : S37)) := ⟨_, rfl⟩
             replace H : (if ((rd_T37 y622 x18_38).f3) = 0 then ((some (([] : List (S37)) : List (S37))).bind fun y624 => (if x18_38 ≤ (x13_2.length : Int) then ((some (y622.take (x18_38 : Int).toNat : List (S37))).bind fun y627 => (if y624.length + y627.length < 3518437208883 then ((some (y624 ++ y627 : List (S37))).bind fun y631 => (if 0 ≤ (wrap64 (x18_38 + 1)) then (if (wrap64 (x18_38 + 1)) ≤ (x13_2.length : Int) then ((some (y622.drop ((wrap64 (x18_38 + 1)) : Int).toNat : List (S37))).bind fun y634 => (if y631.length + y634.length < 3518437208883 then (spec_LotTake.l0 kj38 (wrap64 (x3_2 - t617)) a4 (y631 ++ y634) x14_2 (wrap64 (x17_2 + t618))) else (none))) else (none)) else (none))) else (none))) else (none))) else (spec_LotTake.l0 kj38 (wrap64 (x3_2 - t617)) a4 y622 x14_2 (wrap64 (x17_2 + t618)))) = some (r1, r2, r3) := by first | (rw [hy622]; with_reducible exact H) | (have H2_ := (Option.bind_some _ _).symm.trans H; rw [hy622]; with_reducible exact H2_) | (have H2_ := (Option.bind_some _ _).symm.trans H; with_reducible exact H2_) | with_reducible exact H | (rw [hy622]; exact H) | exact H
             have Ny622 := Aside0.mk hy622
             clear hy622
             by_cases c48 : ((rd_T37 y622 x18_38).f3) = 0
             ·
              rw [if_pos c48] at H
              have c48b0 : (((rd_T37 y622 x18_38).f3) == 0) = true := beq_iff_eq.mpr c48
              have c48b1 : (((rd_T37 y622 x18_38).f3) != 0) = false := bne_eq_false_iff_eq.mpr c48
              clear c48
              obtain ⟨y624, hy624⟩ : ∃ y_ : List (S37), y_ = (([] : List (S37))) := ⟨_, rfl⟩
              replace H : (if x18_38 ≤ (x13_2.length : Int) then ((some (y622.take (x18_38 : Int).toNat : List (S37))).bind fun y627 => (if y624.length + y627.length < 3518437208883 then ((some (y624 ++ y627 : List (S37))).bind fun y631 => (if 0 ≤ (wrap64 (x18_38 + 1)) then (if (wrap64 (x18_38 + 1)) ≤ (x13_2.length : Int) then ((some (y622.drop ((wrap64 (x18_38 + 1)) : Int).toNat : List (S37))).bind fun y634 => (if y631.length + y634.length < 3518437208883 then (spec_LotTake.l0 kj38 (wrap64 (x3_2 - t617)) a4 (y631 ++ y634) x14_2 (wrap64 (x17_2 + t618))) else (none))) else (none)) else (none))) else (none))) else (none)) = some (r1, r2, r3) := by first | (rw [hy624]; with_reducible exact H) | (have H2_ := (Option.bind_some _ _).symm.trans H; rw [hy624]; with_reducible exact H2_) | (have H2_ := (Option.bind_some _ _).symm.trans H; with_reducible exact H2_) | with_reducible exact H | (rw [hy624]; exact H) | exact H
              have Ny624 := Aside0.mk hy624
              clear hy624
              have c49b0 := eq_true (od_ : 0 ≤ x18_38)
              by_cases c50 : x18_38 ≤ (x13_2.length : Int)
              ·
               rw [if_pos c50] at H
               have c50b0 := eq_true c50
               have c50b1 : decide (x18_38 ≤ (x13_2.length : Int)) = true := decide_eq_true c50
               clear c50
               obtain ⟨y627, hy627⟩ : ∃ y_ : List (S37), y_ = (y622.take (x18_38 : Int).toNat) := ⟨_, rfl⟩
               replace H : (if y624.length + y627.length < 3518437208883 then ((some (y624 ++ y627 : List (S37))).bind fun y631 => (if 0 ≤ (wrap64 (x18_38 + 1)) then (if (wrap64 (x18_38 + 1)) ≤ (x13_2.length : Int) then ((some (y622.drop ((wrap64 (x18_38 + 1)) : Int).toNat : List (S37))).bind fun y634 => (if y631.length + y634.length < 3518437208883 then (spec_LotTake.l0 kj38 (wrap64 (x3_2 - t617)) a4 (y631 ++ y634) x14_2 (wrap64 (x17_2 + t618))) else (none))) else (none)) else (none))) else (none)) = some (r1, r2, r3) := by first | (rw [hy627]; with_reducible exact H) | (have H2_ := (Option.bind_some _ _).symm.trans H; rw [hy627]; with_reducible exact H2_) | (have H2_ := (Option.bind_some _ _).symm.trans H; with_reducible exact H2_) | with_reducible exact H | (rw [hy627]; exact H) | exact H
               have Ny627 := Aside0.mk hy627
               clear hy627
               by_cases c51 : y624.length + y627.length < 3518437208883
               ·
                rw [if_pos c51] at H
                have LMc51 := Aside0.mk c51
                clear c51
                obtain ⟨y631, hy631⟩ : ∃ y_ : List (S37), y_ = (y624 ++ y627) := ⟨_, rfl⟩
                replace H : (if 0 ≤ (wrap64 (x18_38 + 1)) then (if (wrap64 (x18_38 + 1)) ≤ (x13_2.length : Int) then ((some (y622.drop ((wrap64 (x18_38 + 1)) : Int).toNat : List (S37))).bind fun y634 => (if y631.length + y634.length < 3518437208883 then (spec_LotTake.l0 kj38 (wrap64 (x3_2 - t617)) a4 (y631 ++ y634) x14_2 (wrap64 (x17_2 + t618))) else (none))) else (none)) else (none)) = some (r1, r2, r3) := by first | (rw [hy631]; with_reducible exact H) | (have H2_ := (Option.bind_some _ _).symm.trans H; rw [hy631]; with_reducible exact H2_) | (have H2_ := (Option.bind_some _ _).symm.trans H; with_reducible exact H2_) | with_reducible exact H | (rw [hy631]; exact H) | exact H
                have Ny631 := Aside0.mk hy631
                clear hy631
                obtain ⟨ji52, hji52⟩ : ∃ j_ : Int, (wrap64 (x18_38 + 1)) = j_ := ⟨_, rfl⟩
                replace H : (if 0 ≤ (ji52) then (if (ji52) ≤ (x13_2.length : Int) then ((some (y622.drop ((ji52) : Int).toNat : List (S37))).bind fun y634 => (if y631.length + y634.length < 3518437208883 then (spec_LotTake.l0 kj38 (wrap64 (x3_2 - t617)) a4 (y631 ++ y634) x14_2 (wrap64 (x17_2 + t618))) else (none))) else (none)) else (none)) = some (r1, r2, r3) := by first | (rw [hji52] at H; exact H) | (simp only [hji52] at H ⊢; exact H)
                (try rw [hji52] at A44)
                (try rw [hji52] at A45)
                have hji52w : (IntKind.i64.wrap (x18_38 + 1)) = ji52 := (i64_w _).trans hji52
                by_cases c53 : 0 ≤ (ji52)
                ·
                 rw [if_pos c53] at H
                 have c53b0 := eq_true c53
                 have c53b1 : decide (0 ≤ (ji52)) = true := decide_eq_true c53
                 clear c53
                 by_cases c54 : (ji52) ≤ (x13_2.length : Int)
                 ·
                  rw [if_pos c54] at H
                  have c54b0 := eq_true c54
                  have c54b1 : decide ((ji52) ≤ (x13_2.length : Int)) = true := decide_eq_true c54
                  clear c54
                  obtain ⟨y634, hy634⟩ : ∃ y_ : List (S37), y_ = (y622.drop ((ji52) : Int).toNat) := ⟨_, rfl⟩
                  replace H : (if y631.length + y634.length < 3518437208883 then (spec_LotTake.l0 kj38 (wrap64 (x3_2 - t617)) a4 (y631 ++ y634) x14_2 (wrap64 (x17_2 + t618))) else (none)) = some (r1, r2, r3) := by first | (rw [hy634]; with_reducible exact H) | (have H2_ := (Option.bind_some _ _).symm.trans H; rw [hy634]; with_reducible exact H2_) | (have H2_ := (Option.bind_some _ _).symm.trans H; with_reducible exact H2_) | with_reducible exact H | (rw [hy634]; exact H) | exact H
                  have Ny634 := Aside0.mk hy634
                  clear hy634
                  by_cases c55 : y631.length + y634.length < 3518437208883
                  ·
                   rw [if_pos c55] at H
                   have LMc55 := Aside0.mk c55
                   clear c55
                   obtain ⟨y638, hy638⟩ : ∃ y_ : List (S37), y_ = (y631 ++ y634) := ⟨_, rfl⟩
                   replace H : (spec_LotTake.l0 kj38 (wrap64 (x3_2 - t617)) a4 y638 x14_2 (wrap64 (x17_2 + t618))) = some (r1, r2, r3) := by first | (rw [hy638]; with_reducible exact H) | (have H2_ := (Option.bind_some _ _).symm.trans H; rw [hy638]; with_reducible exact H2_) | (have H2_ := (Option.bind_some _ _).symm.trans H; with_reducible exact H2_) | with_reducible exact H | (rw [hy638]; exact H) | exact H
                   have Ny638 := Aside0.mk hy638
                   clear hy638
                   have H' := Aside0.mk H
                   clear H
                   obtain ⟨Ao56, co56, eo56⟩ := Kd.R_slice HO_13.out
                   subst eo56
                   have p615 : 0 ≤ (x18_38 : Int) := od_
                   have q615 : x18_38 < (x13_2.length : Int) := od_
                   obtain ⟨ad615, e615, hx615_0, hx615_1, hx615_2, hx615_3, hx615_4⟩ := at_T37 (Kd.R_reads' HO_13.out).2.2 x18_38 p615 q615
                   cases e615
                   replace p615 := eq_true p615
                   replace q615 := eq_true q615
                   try go_wp2_with (first | ((with_reducible refine gate_dst (N := 19) rfl ?_); refine box_event ?hg (N := 19) ?hd (cs := #[.int .i64 0, .int .i64 0, .int .i64 0, .int .i64 0, .int .i64 0]) (t := 37) ?hr ?_; (case hd => rfl); (case hg => rfl); (case hr => first | (go_simp; done) | (go_simp; rfl)); intro gb616 hg w57 hbox hb; have n0_ := Aside0.mk (Kd.R_below (Kd.R_elderB (pe_ HO_13.out) gb616 (Nat.le_of_eq hg.symm)) hb); have n1_ := Aside0.mk (Kd.R_below (Kd.R_elderB (pe_ HO_14.out) gb616 (Nat.le_of_eq hg.symm)) hb); have n2_ := Aside0.mk (below_step (bb_) hb); have n3_ := Aside0.mk (hbox); have n4_ := Aside0.mk ((by rw [hg]; exact (below_size (bb_)) : w.heap.size ≤ gb616)); have n5_ := Aside0.mk ((by rw [hg]; exact (below_size (bb_)) : w.heap.size ≤ gb616)); clear HO_13; clear HO_14; clear HB; have HO_13 := n0_; have HO_14 := n1_; have HB := n2_; have BK616 := n3_; have GW616 := n4_; have GE616 := n5_; clear n0_ n1_ n2_ n3_ n4_ n5_; clear hb hbox hg; have hcz58_0 : w57.cell? ⟨gb616, 0, none⟩ = some (.int .i64 0) := (blk_cell BK616.out 0).trans rfl; have hcz58_1 : w57.cell? ⟨gb616, 1, none⟩ = some (.int .i64 0) := (blk_cell BK616.out 1).trans rfl; have hcz58_2 : w57.cell? ⟨gb616, 2, none⟩ = some (.int .i64 0) := (blk_cell BK616.out 2).trans rfl; have hcz58_3 : w57.cell? ⟨gb616, 3, none⟩ = some (.int .i64 0) := (blk_cell BK616.out 3).trans rfl; have hcz58_4 : w57.cell? ⟨gb616, 4, none⟩ = some (.int .i64 0) := (blk_cell BK616.out 4).trans rfl; have hfz58_0 := blk_frozen BK616.out 0; have hfz58_1 := blk_frozen BK616.out 1; have hfz58_2 := blk_frozen BK616.out 2; have hfz58_3 := blk_frozen BK616.out 3; have hfz58_4 := blk_frozen BK616.out 4) | ((with_reducible refine gate_store (t := 37) (p := 19) rfl ?_); refine store_event (t := 37) (p := 19) (v := ?vo_w59) (w1 := (((((w57.setCell ⟨gb616, 0, none⟩ (.int .i64 ((rd_T37 x13_2 x18_38).f0))).setCell ⟨gb616, 1, none⟩ (.int .i64 ((rd_T37 x13_2 x18_38).f1))).setCell ⟨gb616, 2, none⟩ (.int .i64 ((rd_T37 x13_2 x18_38).f2))).setCell ⟨gb616, 3, none⟩ (.int .i64 ((rd_T37 x13_2 x18_38).f3))).setCell ⟨gb616, 4, none⟩ (.int .i64 ((rd_T37 x13_2 x18_38).f4)))) ?hg ?ho ?hn ?hr ?_; (case ho => rfl); (case hg => rfl); (case hn => rfl); (case hr => first | (go_simp; done) | (go_simp; rfl)); intro w59 hw; have n0_ : Aside0 (Kd.R k37 37 w59 w.heap.size (fun k_ => some k_ ≠ (v596 : Value).ownBlock ∧ k_ ≠ gb616) (.slice (some ad615) x13_2.length co56) x13_2) := ⟨(by rw [hw]; exact (by (with_reducible repeat (first | apply Kd.R_alloc | apply Kd.R_drewN | apply Kd.R_drew)); exact Kd.R_mono (Kd.R_far (p := ⟨gb616, 4, none⟩) (Kd.R_far (p := ⟨gb616, 3, none⟩) (Kd.R_far (p := ⟨gb616, 2, none⟩) (Kd.R_far (p := ⟨gb616, 1, none⟩) (Kd.R_far (p := ⟨gb616, 0, none⟩) (Kd.R_mono HO_13.out (fun k_ hk => (⟨hk, hk.2⟩ : _ ∧ k_ ≠ gb616))) (fun _ hk => hk.2) (.int .i64 ((rd_T37 x13_2 x18_38).f0))) (fun _ hk => hk.2) (.int .i64 ((rd_T37 x13_2 x18_38).f1))) (fun _ hk => hk.2) (.int .i64 ((rd_T37 x13_2 x18_38).f2))) (fun _ hk => hk.2) (.int .i64 ((rd_T37 x13_2 x18_38).f3))) (fun _ hk => hk.2) (.int .i64 ((rd_T37 x13_2 x18_38).f4))) (fun _ hk => ⟨hk.1.1, hk.1.2⟩)))⟩; have n1_ : Aside0 (Kd.R k37 37 w59 w.heap.size (fun k_ => some k_ ≠ (.slice (some ad615) x13_2.length co56 : Value).ownBlock ∧ k_ ≠ gb616) v596 x14_2) := ⟨(by rw [hw]; exact (by (with_reducible repeat (first | apply Kd.R_alloc | apply Kd.R_drewN | apply Kd.R_drew)); exact Kd.R_mono (Kd.R_far (p := ⟨gb616, 4, none⟩) (Kd.R_far (p := ⟨gb616, 3, none⟩) (Kd.R_far (p := ⟨gb616, 2, none⟩) (Kd.R_far (p := ⟨gb616, 1, none⟩) (Kd.R_far (p := ⟨gb616, 0, none⟩) (Kd.R_mono HO_14.out (fun k_ hk => (⟨hk, hk.2⟩ : _ ∧ k_ ≠ gb616))) (fun _ hk => hk.2) (.int .i64 ((rd_T37 x13_2 x18_38).f0))) (fun _ hk => hk.2) (.int .i64 ((rd_T37 x13_2 x18_38).f1))) (fun _ hk => hk.2) (.int .i64 ((rd_T37 x13_2 x18_38).f2))) (fun _ hk => hk.2) (.int .i64 ((rd_T37 x13_2 x18_38).f3))) (fun _ hk => hk.2) (.int .i64 ((rd_T37 x13_2 x18_38).f4))) (fun _ hk => ⟨hk.1.1, hk.1.2⟩)))⟩; have n2_ : Aside0 (w59.heap[gb616]? = some (.cells #[.int .i64 ((rd_T37 x13_2 x18_38).f0), .int .i64 ((rd_T37 x13_2 x18_38).f1), .int .i64 ((rd_T37 x13_2 x18_38).f2), .int .i64 ((rd_T37 x13_2 x18_38).f3), .int .i64 ((rd_T37 x13_2 x18_38).f4)] 37 (0, 0))) := ⟨(by rw [hw]; exact (by (with_reducible repeat (first | refine blk_drewN ?_ _ | refine blk_drew ?_ | refine blk_alloc ?_ _)); refine blk_put (cs := #[.int .i64 ((rd_T37 x13_2 x18_38).f0), .int .i64 ((rd_T37 x13_2 x18_38).f1), .int .i64 ((rd_T37 x13_2 x18_38).f2), .int .i64 ((rd_T37 x13_2 x18_38).f3), .int .i64 0]) ?_ 4 _ rfl; (with_reducible repeat (first | refine blk_drewN ?_ _ | refine blk_drew ?_ | refine blk_alloc ?_ _)); refine blk_put (cs := #[.int .i64 ((rd_T37 x13_2 x18_38).f0), .int .i64 ((rd_T37 x13_2 x18_38).f1), .int .i64 ((rd_T37 x13_2 x18_38).f2), .int .i64 0, .int .i64 0]) ?_ 3 _ rfl; (with_reducible repeat (first | refine blk_drewN ?_ _ | refine blk_drew ?_ | refine blk_alloc ?_ _)); refine blk_put (cs := #[.int .i64 ((rd_T37 x13_2 x18_38).f0), .int .i64 ((rd_T37 x13_2 x18_38).f1), .int .i64 0, .int .i64 0, .int .i64 0]) ?_ 2 _ rfl; (with_reducible repeat (first | refine blk_drewN ?_ _ | refine blk_drew ?_ | refine blk_alloc ?_ _)); refine blk_put (cs := #[.int .i64 ((rd_T37 x13_2 x18_38).f0), .int .i64 0, .int .i64 0, .int .i64 0, .int .i64 0]) ?_ 1 _ rfl; (with_reducible repeat (first | refine blk_drewN ?_ _ | refine blk_drew ?_ | refine blk_alloc ?_ _)); refine blk_put (cs := #[.int .i64 0, .int .i64 0, .int .i64 0, .int .i64 0, .int .i64 0]) ?_ 0 _ rfl; (with_reducible repeat (first | refine blk_drewN ?_ _ | refine blk_drew ?_ | refine blk_alloc ?_ _)); exact BK616.out))⟩; have n3_ : Aside0 (Below w.heap.size w w59) := ⟨(by rw [hw]; exact (bg_ GE616.out))⟩; clear hw; clear HO_13; clear HO_14; clear BK616; clear HB; have HO_13 := n0_; have HO_14 := n1_; have BK616 := n2_; have HB := n3_; clear n0_ n1_ n2_ n3_; have hcz60_0 : w59.cell? ⟨gb616, 0, none⟩ = some (.int .i64 ((rd_T37 x13_2 x18_38).f0)) := (blk_cell BK616.out 0).trans rfl; have hcz60_1 : w59.cell? ⟨gb616, 1, none⟩ = some (.int .i64 ((rd_T37 x13_2 x18_38).f1)) := (blk_cell BK616.out 1).trans rfl; have hcz60_2 : w59.cell? ⟨gb616, 2, none⟩ = some (.int .i64 ((rd_T37 x13_2 x18_38).f2)) := (blk_cell BK616.out 2).trans rfl; have hcz60_3 : w59.cell? ⟨gb616, 3, none⟩ = some (.int .i64 ((rd_T37 x13_2 x18_38).f3)) := (blk_cell BK616.out 3).trans rfl; have hcz60_4 : w59.cell? ⟨gb616, 4, none⟩ = some (.int .i64 ((rd_T37 x13_2 x18_38).f4)) := (blk_cell BK616.out 4).trans rfl; have hfz60_0 := blk_frozen BK616.out 0; have hfz60_1 := blk_frozen BK616.out 1; have hfz60_2 := blk_frozen BK616.out 2; have hfz60_3 := blk_frozen BK616.out 3; have hfz60_4 := blk_frozen BK616.out 4) | ((with_reducible refine gate_callee (f := 63) rfl ?_); refine goesL_ (some 78) rfl rfl Try.func63 kr_ rfl #[.int .i64 ((rd_T37 x13_2 x18_38).f3), .int .i64 x3_2] rfl (bc_) ?_; (with_reducible refine (spec_l1Min.calls ((rd_T37 x13_2 x18_38).f3) x3_2 t617 _ A44.out).mono ?_); rintro e w' ⟨rfl, ⟨nd, rfl⟩⟩; refine ⟨_, rfl, ?_⟩; (try (rw [drewN_self w59]; generalize hq_ : World.drewN w59 _ = w59; have n0_ : Aside0 (Kd.R k37 37 w59 w.heap.size (fun k_ => some k_ ≠ (v596 : Value).ownBlock ∧ k_ ≠ gb616) (.slice (some ad615) x13_2.length co56) x13_2) := ⟨by rw [← hq_]; exact (pe_ HO_13.out)⟩; have n1_ : Aside0 (Kd.R k37 37 w59 w.heap.size (fun k_ => some k_ ≠ (.slice (some ad615) x13_2.length co56 : Value).ownBlock ∧ k_ ≠ gb616) v596 x14_2) := ⟨by rw [← hq_]; exact (pe_ HO_14.out)⟩; have n2_ : Aside0 (w59.heap[gb616]? = some (.cells #[.int .i64 ((rd_T37 x13_2 x18_38).f0), .int .i64 ((rd_T37 x13_2 x18_38).f1), .int .i64 ((rd_T37 x13_2 x18_38).f2), .int .i64 ((rd_T37 x13_2 x18_38).f3), .int .i64 ((rd_T37 x13_2 x18_38).f4)] 37 (0, 0))) := ⟨by rw [← hq_]; exact (pb_ BK616.out)⟩; have n3_ : Aside0 (Below w.heap.size w w59) := ⟨by rw [← hq_]; exact (bg_ GE616.out)⟩; clear HO_13 HO_14 BK616 HB hq_; have HO_13 := n0_; have HO_14 := n1_; have BK616 := n2_; have HB := n3_; clear n0_ n1_ n2_ n3_; have hcy_0 : w59.cell? ⟨gb616, 0, none⟩ = some (.int .i64 ((rd_T37 x13_2 x18_38).f0)) := (blk_cell BK616.out 0).trans rfl; have hfy_0 := blk_frozen BK616.out 0; have hcy_1 : w59.cell? ⟨gb616, 1, none⟩ = some (.int .i64 ((rd_T37 x13_2 x18_38).f1)) := (blk_cell BK616.out 1).trans rfl; have hfy_1 := blk_frozen BK616.out 1; have hcy_2 : w59.cell? ⟨gb616, 2, none⟩ = some (.int .i64 ((rd_T37 x13_2 x18_38).f2)) := (blk_cell BK616.out 2).trans rfl; have hfy_2 := blk_frozen BK616.out 2; have hcy_3 : w59.cell? ⟨gb616, 3, none⟩ = some (.int .i64 ((rd_T37 x13_2 x18_38).f3)) := (blk_cell BK616.out 3).trans rfl; have hfy_3 := blk_frozen BK616.out 3; have hcy_4 : w59.cell? ⟨gb616, 4, none⟩ = some (.int .i64 ((rd_T37 x13_2 x18_38).f4)) := (blk_cell BK616.out 4).trans rfl; have hfy_4 := blk_frozen BK616.out 4))) | ((with_reducible refine gate_callee (f := 64) rfl ?_); refine goesL_ (some 85) rfl rfl Try.func64 kr_ rfl #[.int .i64 ((rd_T37 x13_2 x18_38).f4), .int .i64 t617, .int .i64 ((rd_T37 x13_2 x18_38).f3)] rfl (bc_) ?_; (with_reducible refine (spec_MulDiv.calls kj38 ((rd_T37 x13_2 x18_38).f4) t617 ((rd_T37 x13_2 x18_38).f3) t618 t619 t620 _ A45.out).mono ?_); rintro e w' ⟨rfl, ⟨nd, rfl⟩⟩; refine ⟨_, rfl, ?_⟩; (try (rw [drewN_self w59]; generalize hq_ : World.drewN w59 _ = w59; have n0_ : Aside0 (Kd.R k37 37 w59 w.heap.size (fun k_ => some k_ ≠ (v596 : Value).ownBlock ∧ k_ ≠ gb616) (.slice (some ad615) x13_2.length co56) x13_2) := ⟨by rw [← hq_]; exact (pe_ HO_13.out)⟩; have n1_ : Aside0 (Kd.R k37 37 w59 w.heap.size (fun k_ => some k_ ≠ (.slice (some ad615) x13_2.length co56 : Value).ownBlock ∧ k_ ≠ gb616) v596 x14_2) := ⟨by rw [← hq_]; exact (pe_ HO_14.out)⟩; have n2_ : Aside0 (w59.heap[gb616]? = some (.cells #[.int .i64 ((rd_T37 x13_2 x18_38).f0), .int .i64 ((rd_T37 x13_2 x18_38).f1), .int .i64 ((rd_T37 x13_2 x18_38).f2), .int .i64 ((rd_T37 x13_2 x18_38).f3), .int .i64 ((rd_T37 x13_2 x18_38).f4)] 37 (0, 0))) := ⟨by rw [← hq_]; exact (pb_ BK616.out)⟩; have n3_ : Aside0 (Below w.heap.size w w59) := ⟨by rw [← hq_]; exact (bg_ GE616.out)⟩; clear HO_13 HO_14 BK616 HB hq_; have HO_13 := n0_; have HO_14 := n1_; have BK616 := n2_; have HB := n3_; clear n0_ n1_ n2_ n3_; have hcy_0 : w59.cell? ⟨gb616, 0, none⟩ = some (.int .i64 ((rd_T37 x13_2 x18_38).f0)) := (blk_cell BK616.out 0).trans rfl; have hfy_0 := blk_frozen BK616.out 0; have hcy_1 : w59.cell? ⟨gb616, 1, none⟩ = some (.int .i64 ((rd_T37 x13_2 x18_38).f1)) := (blk_cell BK616.out 1).trans rfl; have hfy_1 := blk_frozen BK616.out 1; have hcy_2 : w59.cell? ⟨gb616, 2, none⟩ = some (.int .i64 ((rd_T37 x13_2 x18_38).f2)) := (blk_cell BK616.out 2).trans rfl; have hfy_2 := blk_frozen BK616.out 2; have hcy_3 : w59.cell? ⟨gb616, 3, none⟩ = some (.int .i64 ((rd_T37 x13_2 x18_38).f3)) := (blk_cell BK616.out 3).trans rfl; have hfy_3 := blk_frozen BK616.out 3; have hcy_4 : w59.cell? ⟨gb616, 4, none⟩ = some (.int .i64 ((rd_T37 x13_2 x18_38).f4)) := (blk_cell BK616.out 4).trans rfl; have hfy_4 := blk_frozen BK616.out 4)); have p46 : 0 ≤ (x18_38 : Int) := od_; have q46 : (x18_38 : Int) < ((x13_2.length : Int) : Int) := od_; obtain ⟨go46, co46, eo46, gb46, gl46, cl46, HG46⟩ := Kd.R_form HO_13.out (by omega); (first | cases eo46 | (injection eo46 with ea_ en_ ec_; (first | subst ea_ | (injection ea_ with ea_; subst ea_)); subst ec_; clear en_)); have GB46 := Aside0.mk gb46; have GG46 := Aside0.mk HG46; clear gb46 gl46 HG46; (first | simp only [add_plain] at hx615_0 | skip); (first | simp only [add_plain] at hx615_1 | skip); (first | simp only [add_plain] at hx615_2 | skip); (first | simp only [add_plain] at hx615_3 | skip); (first | simp only [add_plain] at hx615_4 | skip); obtain ⟨ce46, hcl46, hM46, hcc46, hfr46⟩ := Kd.R_elem HO_13.out z37 (x18_38 : Int) p46 q46; obtain rfl := k37_openM hM46; have hx46_0 : w59.cell? ⟨go46, (x18_38 : Int).toNat * 5, none⟩ = some (.int .i64 ((rd_T37 x13_2 x18_38).f0)) := hcc46 0 _ rfl; have hx46_1 : w59.cell? ⟨go46, (x18_38 : Int).toNat * 5 + 1, none⟩ = some (.int .i64 ((rd_T37 x13_2 x18_38).f1)) := hcc46 1 _ rfl; have hx46_2 : w59.cell? ⟨go46, (x18_38 : Int).toNat * 5 + 2, none⟩ = some (.int .i64 ((rd_T37 x13_2 x18_38).f2)) := hcc46 2 _ rfl; have hx46_3 : w59.cell? ⟨go46, (x18_38 : Int).toNat * 5 + 3, none⟩ = some (.int .i64 ((rd_T37 x13_2 x18_38).f3)) := hcc46 3 _ rfl; have hx46_4 : w59.cell? ⟨go46, (x18_38 : Int).toNat * 5 + 4, none⟩ = some (.int .i64 ((rd_T37 x13_2 x18_38).f4)) := hcc46 4 _ rfl; have hf46_0 : w59.frozen? ⟨go46, (x18_38 : Int).toNat * 5, none⟩ = false := hfr46 0; have hf46_1 : w59.frozen? ⟨go46, (x18_38 : Int).toNat * 5 + 1, none⟩ = false := hfr46 1; have hf46_2 : w59.frozen? ⟨go46, (x18_38 : Int).toNat * 5 + 2, none⟩ = false := hfr46 2; have hf46_3 : w59.frozen? ⟨go46, (x18_38 : Int).toNat * 5 + 3, none⟩ = false := hfr46 3; have hf46_4 : w59.frozen? ⟨go46, (x18_38 : Int).toNat * 5 + 4, none⟩ = false := hfr46 4; clear hcl46 hcc46 hfr46 hM46; replace p46 := eq_true p46; replace q46 := eq_true q46; have HX61 := Aside0.mk (show Kd.R k37 37 w59 w.heap.size (fun k_ => some k_ ≠ (v596 : Value).ownBlock ∧ k_ ≠ gb616) (.slice (some ⟨go46, 0, none⟩) x13_2.length co56) x13_2 from (pe_ HO_13.out)); obtain ⟨ce61, hcl61, hM61, hcc61, hfr61⟩ := Kd.R_elem HX61.out z37 (x18_38 : Int) (od_) (by have h_ : (x18_38 : Int) < ((x13_2.length : Int) : Int) := od_; first | exact h_ | (have e_ := (Kd.R_reads' HO_13.out).1; omega) | simpa using h_); obtain rfl := k37_openM hM61; have HP61 := Kd.R_seg HX61.out (x18_38 : Int) (od_) (by have h_ : (x18_38 : Int) < ((x13_2.length : Int) : Int) := od_; first | exact h_ | (have e_ := (Kd.R_reads' HO_13.out).1; omega) | simpa using h_) (seg := [.int .i64 (wrap64 (((rd_T37 x13_2 x18_38).f3) - t617))]) (j := 3) hcl61 hcc61 (show 4 ≤ 5 from by decide) (x' := (⟨(rd_T37 x13_2 x18_38).f0, (rd_T37 x13_2 x18_38).f1, (rd_T37 x13_2 x18_38).f2, wrap64 (((rd_T37 x13_2 x18_38).f3) - t617), (rd_T37 x13_2 x18_38).f4⟩ : S37)) (k37_mkM _ _ _ (⟨(rd_T37 x13_2 x18_38).f0, (rd_T37 x13_2 x18_38).f1, (rd_T37 x13_2 x18_38).f2, wrap64 (((rd_T37 x13_2 x18_38).f3) - t617), (rd_T37 x13_2 x18_38).f4⟩ : S37) ) (fun _ hk => hk); have hx61_3 := hcc61 3 _ rfl; (try simp only [show (k37).sz = 5 from rfl, Nat.mul_one, Nat.add_zero] at hx61_3); have hf61_3 := hfr61 3; (try simp only [show (k37).sz = 5 from rfl, Nat.mul_one, Nat.add_zero] at hf61_3); clear hcl61 hcc61 hfr61 hM61) | ((with_reducible refine gate_store (t := 3) (p := 102) rfl ?_); refine store_event (t := 3) (p := 102) (v := ?vo_w62) (w1 := (w59.setCell ⟨go46, (x18_38 : Int).toNat * 5 + 3, none⟩ (.int .i64 (wrap64 (((rd_T37 x13_2 x18_38).f3) - t617))))) ?hg ?ho ?hn ?hr ?_; (case ho => rfl); (case hg => rfl); (case hn => rfl); (case hr => first | (go_simp; done) | (go_simp; rfl)); intro w62 hw; have hg : w59.grownBy w62 (some go46) := (by rw [hw]; exact HP61.2); have hp_ : Kd.R k37 37 w62 w.heap.size (fun k_ => some k_ ≠ (v596 : Value).ownBlock ∧ k_ ≠ gb616) (.slice (some ⟨go46, 0, none⟩) x13_2.length co56) y621 := (by rw [hw, Ny621.out]; exact HP61.1); clear HP61; have n0_ := Aside0.mk (hp_); have n1_ := Aside0.mk (Kd.R_after (v := (.slice (some ⟨go46, 0, none⟩) x13_2.length co56)) (v1 := (.slice (some ⟨go46, 0, none⟩) x13_2.length co56)) (ok := (fun k_ => k_ ≠ gb616)) (by (with_reducible repeat (first | apply Kd.R_alloc | apply Kd.R_drewN | apply Kd.R_drew)); exact Kd.R_mono HO_14.out (fun _ hk => ⟨hk.2, hk.1⟩)) hg (.inl rfl)); have n2_ := Aside0.mk (blk_grown (g := gb616) (o := .cells #[.int .i64 ((rd_T37 x13_2 x18_38).f0), .int .i64 ((rd_T37 x13_2 x18_38).f1), .int .i64 ((rd_T37 x13_2 x18_38).f2), .int .i64 ((rd_T37 x13_2 x18_38).f3), .int .i64 ((rd_T37 x13_2 x18_38).f4)] 37 (0, 0)) (pb_ BK616.out) hg (Kd.R_away HO_13.out (fun _ hk => hk.2))); have n3_ := Aside0.mk ((by rw [hw]; exact below_set (HB.out) GB46.out : Below w.heap.size w w62)); clear HO_13; clear HO_14; clear BK616; clear HB; have HO_13 := n0_; have HO_14 := n1_; have BK616 := n2_; have HB := n3_; clear n0_ n1_ n2_ n3_; clear hg hw hp_; have hcz63_0 : w62.cell? ⟨gb616, 0, none⟩ = some (.int .i64 ((rd_T37 x13_2 x18_38).f0)) := (blk_cell BK616.out 0).trans rfl; have hcz63_1 : w62.cell? ⟨gb616, 1, none⟩ = some (.int .i64 ((rd_T37 x13_2 x18_38).f1)) := (blk_cell BK616.out 1).trans rfl; have hcz63_2 : w62.cell? ⟨gb616, 2, none⟩ = some (.int .i64 ((rd_T37 x13_2 x18_38).f2)) := (blk_cell BK616.out 2).trans rfl; have hcz63_3 : w62.cell? ⟨gb616, 3, none⟩ = some (.int .i64 ((rd_T37 x13_2 x18_38).f3)) := (blk_cell BK616.out 3).trans rfl; have hcz63_4 : w62.cell? ⟨gb616, 4, none⟩ = some (.int .i64 ((rd_T37 x13_2 x18_38).f4)) := (blk_cell BK616.out 4).trans rfl; have hfz63_0 := blk_frozen BK616.out 0; have hfz63_1 := blk_frozen BK616.out 1; have hfz63_2 := blk_frozen BK616.out 2; have hfz63_3 := blk_frozen BK616.out 3; have hfz63_4 := blk_frozen BK616.out 4; have p47 : 0 ≤ (x18_38 : Int) := od_; have q47 : (x18_38 : Int) < ((x13_2.length : Int) : Int) := od_; obtain ⟨ce47, hcl47, hM47, hcc47, hfr47⟩ := Kd.R_elem HO_13.out z37 (x18_38 : Int) p47 q47; obtain rfl := k37_openM hM47; have hx47_0 : w62.cell? ⟨go46, (x18_38 : Int).toNat * 5, none⟩ = some (.int .i64 ((rd_T37 y621 x18_38).f0)) := hcc47 0 _ rfl; have hx47_1 : w62.cell? ⟨go46, (x18_38 : Int).toNat * 5 + 1, none⟩ = some (.int .i64 ((rd_T37 y621 x18_38).f1)) := hcc47 1 _ rfl; have hx47_2 : w62.cell? ⟨go46, (x18_38 : Int).toNat * 5 + 2, none⟩ = some (.int .i64 ((rd_T37 y621 x18_38).f2)) := hcc47 2 _ rfl; have hx47_3 : w62.cell? ⟨go46, (x18_38 : Int).toNat * 5 + 3, none⟩ = some (.int .i64 ((rd_T37 y621 x18_38).f3)) := hcc47 3 _ rfl; have hx47_4 : w62.cell? ⟨go46, (x18_38 : Int).toNat * 5 + 4, none⟩ = some (.int .i64 ((rd_T37 y621 x18_38).f4)) := hcc47 4 _ rfl; have hf47_0 : w62.frozen? ⟨go46, (x18_38 : Int).toNat * 5, none⟩ = false := hfr47 0; have hf47_1 : w62.frozen? ⟨go46, (x18_38 : Int).toNat * 5 + 1, none⟩ = false := hfr47 1; have hf47_2 : w62.frozen? ⟨go46, (x18_38 : Int).toNat * 5 + 2, none⟩ = false := hfr47 2; have hf47_3 : w62.frozen? ⟨go46, (x18_38 : Int).toNat * 5 + 3, none⟩ = false := hfr47 3; have hf47_4 : w62.frozen? ⟨go46, (x18_38 : Int).toNat * 5 + 4, none⟩ = false := hfr47 4; clear hcl47 hcc47 hfr47 hM47; replace p47 := eq_true p47; replace q47 := eq_true q47; have HX64 := Aside0.mk (show Kd.R k37 37 w62 w.heap.size (fun k_ => some k_ ≠ (v596 : Value).ownBlock ∧ k_ ≠ gb616) (.slice (some ⟨go46, 0, none⟩) x13_2.length co56) y621 from (pe_ HO_13.out)); obtain ⟨ce64, hcl64, hM64, hcc64, hfr64⟩ := Kd.R_elem HX64.out z37 (x18_38 : Int) (od_) (by have h_ : (x18_38 : Int) < ((x13_2.length : Int) : Int) := od_; first | exact h_ | (have e_ := (Kd.R_reads' HO_13.out).1; omega) | simpa using h_); obtain rfl := k37_openM hM64; have HP64 := Kd.R_seg HX64.out (x18_38 : Int) (od_) (by have h_ : (x18_38 : Int) < ((x13_2.length : Int) : Int) := od_; first | exact h_ | (have e_ := (Kd.R_reads' HO_13.out).1; omega) | simpa using h_) (seg := [.int .i64 (wrap64 (((rd_T37 x13_2 x18_38).f4) - t618))]) (j := 4) hcl64 hcc64 (show 5 ≤ 5 from by decide) (x' := (⟨(rd_T37 y621 x18_38).f0, (rd_T37 y621 x18_38).f1, (rd_T37 y621 x18_38).f2, (rd_T37 y621 x18_38).f3, wrap64 (((rd_T37 x13_2 x18_38).f4) - t618)⟩ : S37)) (k37_mkM _ _ _ (⟨(rd_T37 y621 x18_38).f0, (rd_T37 y621 x18_38).f1, (rd_T37 y621 x18_38).f2, (rd_T37 y621 x18_38).f3, wrap64 (((rd_T37 x13_2 x18_38).f4) - t618)⟩ : S37) ) (fun _ hk => hk); have hx64_4 := hcc64 4 _ rfl; (try simp only [show (k37).sz = 5 from rfl, Nat.mul_one, Nat.add_zero] at hx64_4); have hf64_4 := hfr64 4; (try simp only [show (k37).sz = 5 from rfl, Nat.mul_one, Nat.add_zero] at hf64_4); clear hcl64 hcc64 hfr64 hM64) | ((with_reducible refine gate_store (t := 3) (p := 110) rfl ?_); refine store_event (t := 3) (p := 110) (v := ?vo_w65) (w1 := (w62.setCell ⟨go46, (x18_38 : Int).toNat * 5 + 4, none⟩ (.int .i64 (wrap64 (((rd_T37 x13_2 x18_38).f4) - t618))))) ?hg ?ho ?hn ?hr ?_; (case ho => rfl); (case hg => rfl); (case hn => rfl); (case hr => first | (go_simp; done) | (go_simp; rfl)); intro w65 hw; have hg : w62.grownBy w65 (some go46) := (by rw [hw]; exact HP64.2); have hp_ : Kd.R k37 37 w65 w.heap.size (fun k_ => some k_ ≠ (v596 : Value).ownBlock ∧ k_ ≠ gb616) (.slice (some ⟨go46, 0, none⟩) x13_2.length co56) y622 := (by rw [hw, Ny622.out]; exact HP64.1); clear HP64; have n0_ := Aside0.mk (hp_); have n1_ := Aside0.mk (Kd.R_after (v := (.slice (some ⟨go46, 0, none⟩) x13_2.length co56)) (v1 := (.slice (some ⟨go46, 0, none⟩) x13_2.length co56)) (ok := (fun k_ => k_ ≠ gb616)) (pe_ HO_14.out) hg (.inl rfl)); have n2_ := Aside0.mk (blk_grown (g := gb616) (o := .cells #[.int .i64 ((rd_T37 x13_2 x18_38).f0), .int .i64 ((rd_T37 x13_2 x18_38).f1), .int .i64 ((rd_T37 x13_2 x18_38).f2), .int .i64 ((rd_T37 x13_2 x18_38).f3), .int .i64 ((rd_T37 x13_2 x18_38).f4)] 37 (0, 0)) (pb_ BK616.out) hg (Kd.R_away HO_13.out (fun _ hk => hk.2))); have n3_ := Aside0.mk ((by rw [hw]; exact below_set (HB.out) GB46.out : Below w.heap.size w w65)); clear HO_13; clear HO_14; clear BK616; clear HB; have HO_13 := n0_; have HO_14 := n1_; have BK616 := n2_; have HB := n3_; clear n0_ n1_ n2_ n3_; clear hg hw hp_; have p623 : 0 ≤ (x18_38 : Int) := od_; have q623 : x18_38 < (y622.length : Int) := (by have h_ : (x18_38 : Int) < ((x13_2.length : Int) : Int) := od_; first | (have e_ := (Kd.R_reads' HO_13.out).1; omega) | simpa only [Ny621.out, Ny622.out, List.length_set] using h_); have ql623 : ((x18_38 : Int) < ((x13_2.length : Int) : Int)) = True := eq_true (od_); obtain ⟨ad623, e623, hx623_0, hx623_1, hx623_2, hx623_3, hx623_4⟩ := at_T37 (Kd.R_reads' HO_13.out).2.2 x18_38 p623 q623; obtain rfl : (⟨go46, 0, none⟩ : Addr) = ad623 := (by injection e623); (first | simp only [add_plain] at hx623_0 | simp only [add_at] at hx623_0 | simp only [Addr.add, Nat.zero_add] at hx623_0 | skip); (first | simp only [add_plain] at hx623_1 | simp only [add_at] at hx623_1 | simp only [Addr.add, Nat.zero_add] at hx623_1 | skip); (first | simp only [add_plain] at hx623_2 | simp only [add_at] at hx623_2 | simp only [Addr.add, Nat.zero_add] at hx623_2 | skip); (first | simp only [add_plain] at hx623_3 | simp only [add_at] at hx623_3 | simp only [Addr.add, Nat.zero_add] at hx623_3 | skip); (first | simp only [add_plain] at hx623_4 | simp only [add_at] at hx623_4 | simp only [Addr.add, Nat.zero_add] at hx623_4 | skip); replace p623 := eq_true p623; replace q623 := eq_true q623))
                   have n0_ := Aside0.mk (Kd.R_drew HO_13.out)
                   have n1_ := Aside0.mk (Kd.R_drew HO_14.out)
                   have n2_ := Aside0.mk (blk_drew BK616.out)
                   have n3_ := Aside0.mk (below_drew1 HB.out)
                   clear HO_13
                   clear HO_14
                   clear BK616
                   clear HB
                   have HO_13 := n0_
                   have HO_14 := n1_
                   have BK616 := n2_
                   have HB := n3_
                   clear n0_ n1_ n2_ n3_
                   have hlx67 := (Kd.R_reads' HO_13.out).1
                   have q67 : (x18_38 : Int) ≤ ((x13_2.length : Int) : Int) := od_
                   obtain ⟨i067, hi067, _, hsz67, _⟩ := info_parts info37
                   have hroom67 : x13_2.length ≤ co56 := (Kd.R_reads' HO_13.out).2.1
                   have hroomc67 : y622.length ≤ co56 := (by rw [← hlx67]; exact hroom67)
                   have hC67 : Kd.C k37 _ (some ⟨go46, 0, none⟩) y622.length y622 := (Kd.R_reads' HO_13.out).2.2
                   have hcut67 := cut_to (P := Try.prog) 25 37 .i64 Try.underlying25 hi067 (some ⟨go46, 0, none⟩) x13_2.length co56 x18_38 (od_) q67 hroom67
                   have hr67 := Kd.C_take (m := (x18_38 : Int).toNat) hC67 (by omega)
                   have hy67 : y627.length = (x18_38 : Int).toNat := (by rw [Ny627.out, List.length_take]; omega)
                   rw [← Ny627.out] at hr67
                   rw [← hy67] at hcut67
                   have HR630 := Aside0.mk hr67
                   have HC630 := Aside0.mk (show y627.length ≤ co56 from by omega)
                   clear hr67 hC67 hroom67 hi067 hsz67 hroomc67
                   have KY67 := Aside0.mk hy67
                   clear hy67
                   have KE67 := Aside0.mk hlx67
                   have KL67 := Aside0.mk (show (x18_38 : Int).toNat ≤ y622.length from by omega)
                   clear hlx67
                   replace q67 := eq_true q67
                   have hlx68 := (Kd.R_reads' HO_13.out).1
                   have q68 : ((ji52) : Int) ≤ ((x13_2.length : Int) : Int) := od_
                   obtain ⟨i068, hi068, _, hsz68, _⟩ := info_parts info37
                   have hroom68 : x13_2.length ≤ co56 := (Kd.R_reads' HO_13.out).2.1
                   have hroomc68 : y622.length ≤ co56 := (by rw [← hlx68]; exact hroom68)
                   have hC68 : Kd.C k37 _ (some ⟨go46, 0, none⟩) y622.length y622 := (Kd.R_reads' HO_13.out).2.2
                   have q068 : (0 : Int) ≤ ((ji52) : Int) := od_
                   have hcut68 := cut_from (P := Try.prog) 25 37 .i64 Try.underlying25 hi068 5 hsz68 (some ⟨go46, 0, none⟩) x13_2.length co56 (ji52) q068 q68
                   have hr68 := Kd.C_drop (m := ((ji52) : Int).toNat) (c := co56) hC68 (by omega) hroomc68
                   obtain ⟨A68, hA68⟩ : ∃ A1, A1 = (if co56 = ((ji52) : Int).toNat then (some ⟨go46, 0, none⟩) else ((some ⟨go46, 0, none⟩) : Option Addr).map (·.add (((ji52) : Int).toNat * 5))) := ⟨_, rfl⟩
                   obtain ⟨c68, hc68⟩ : ∃ c1, c1 = co56 - ((ji52) : Int).toNat := ⟨_, rfl⟩
                   have hy68 : y634.length = x13_2.length - ((ji52) : Int).toNat := (by rw [Ny634.out, List.length_drop] <;> omega)
                   rw [show (y622).drop ((ji52) : Int).toNat = y634 from Ny634.out.symm] at hr68
                   replace hr68 : Kd.C k37 _ A68 y634.length y634 := (by rw [hA68]; exact hr68)
                   rw [← hy68, ← hA68, ← hc68] at hcut68
                   have HR637 := Aside0.mk hr68
                   have HC637 := Aside0.mk (show y634.length ≤ c68 from by rw [hy68, hc68]; exact Nat.sub_le_sub_right hroom68 _)
                   clear hr68 hC68 hroom68 hi068 hsz68 hc68 hroomc68
                   have KY68 := Aside0.mk hy68
                   have KA68 := Aside0.mk hA68
                   clear hy68 hA68
                   have KE68 := Aside0.mk hlx68
                   have KL68 := Aside0.mk (show ((ji52) : Int).toNat ≤ y622.length from by omega)
                   clear hlx68
                   replace q68 := eq_true q68
                   refine start_ (n := 11) (S := fun w' => True) (ds := []) #[false, false, false, false, false, false, false, false, false, false, false] kr_ rfl rfl trivial (fun hHeld => ?_); refine with_tabW spec_LotTake.tab22 spec_LotTake.bits22 (fun HT_ HW_ => ?_)
                   generalize w65.drew = w66 at HO_13 HO_14 BK616 HB HR630 HR637 hHeld ⊢
                   refine pure_ (i := 1) (N := some 118) (v := ?_) (a' := ?_) #[false, true, false, false, false, false, false, false, false, false, false] rfl rfl (any_of HT_.out kr_) (fun _ _ _ h => h) (Or.inl ⟨by rfl, ?_⟩) ?_ ?_
                   rotate_left
                   ·
                    intro w'
                    go_simp
                    with_reducible rfl
                   rotate_left
                   ·
                    exact sp_
                   refine pure_ (i := 2) (N := some 119) (v := ?_) (a' := ?_) #[false, true, true, false, false, false, false, false, false, false, false] rfl rfl (any_of HT_.out kr_) (fun _ _ _ h => h) (Or.inl ⟨by rfl, ?_⟩) ?_ ?_
                   rotate_left
                   ·
                    intro w'
                    go_simp
                    with_reducible rfl
                   rotate_left
                   ·
                    exact sp_
                   refine pure_ (i := 3) (N := some 120) (v := ?_) (a' := ?_) #[false, true, true, true, false, false, false, false, false, false, false] rfl rfl (any_of HT_.out kr_) (fun _ _ _ h => h) (Or.inl ⟨by rfl, ?_⟩) ?_ ?_
                   rotate_left
                   ·
                    intro w'
                    go_simp
                    with_reducible rfl
                   rotate_left
                   ·
                    exact sp_
                   refine pure_ (i := 5) (N := some 122) (v := ?_) (a' := ?_) #[false, true, true, true, false, true, false, false, false, false, false] rfl rfl (any_of HT_.out kr_) (fun _ _ _ h => h) (Or.inl ⟨by rfl, ?_⟩) ?_ ?_
                   rotate_left
                   ·
                    intro w'
                    go_simp
                    with_reducible rfl
                   rotate_left
                   ·
                    exact sp_
                   refine pure_ (i := 6) (N := some 123) (v := ?_) (a' := ?_) #[false, true, true, true, false, true, true, false, false, false, false] rfl rfl (any_of HT_.out kr_) (fun _ _ _ h => h) (Or.inl ⟨by rfl, ?_⟩) ?_ ?_
                   rotate_left
                   ·
                    intro w'
                    go_simp
                    with_reducible rfl
                   rotate_left
                   ·
                    exact sp_
                   refine pure_ (i := 7) (N := some 124) (v := ?_) (a' := ?_) #[false, true, true, true, false, true, true, true, false, false, false] rfl rfl (any_of HT_.out kr_) (fun _ _ _ h => h) (Or.inl ⟨by rfl, ?_⟩) ?_ ?_
                   rotate_left
                   ·
                    intro w'
                    go_simp
                    with_reducible rfl
                   rotate_left
                   ·
                    exact sp_
                   refine pure_ (i := 8) (N := some 125) (v := ?_) (a' := ?_) #[false, true, true, true, false, true, true, true, true, false, false] rfl rfl (any_of HT_.out kr_) (fun _ _ _ h => h) (Or.inl ⟨by rfl, ?_⟩) ?_ ?_
                   rotate_left
                   ·
                    intro w'
                    go_simp
                    with_reducible rfl
                   rotate_left
                   ·
                    exact sp_
                   refine one_ (i := 0) (N := some 117) #[true, true, true, true, false, true, true, true, true, false, false] rfl rfl (one_of HT_.out kr_) (by decide) (fun K hK => ?_)
                   refine Kd.R_lit_step k37 _ 37 ?hg (N := 117) ?hd (xs := ([] : List (S37))) (inner := []) (ok := fun _ => True) (okp := fun _ => True) ?hr ?hp (fun _ hk => hk) trivial (Below.refl _ _) (Nat.le_refl _) (by simp) ?_; (case hd => rfl); (case hg => rfl); (case hr => first | (go_simp; done) | (go_simp; rfl)); (case hp => exact (Reps.none _ _))
                   intro v625 w69 ho70 hb hg_ hnew_
                   clear hg_ hnew_
                   (first | rw [← Ny624.out] at ho70 | (simp only [Int.reduceToNat] at ho70; rw [← Ny624.out] at ho70))
                   have n0_ := Aside0.mk (Kd.R_elder' (pe_ HO_13.out) (Kd.R_base ho70) hb)
                   have n1_ := Aside0.mk (Kd.R_elder' (pe_ HO_14.out) (Kd.R_base ho70) hb)
                   have n2_ := Aside0.mk (Kd.R_lower (Kd.R_newB (Kd.R_new' (Kd.R_new' ho70 (Kd.R_lt (pe_ HO_13.out))) (Kd.R_lt (pe_ HO_14.out))) (g := gb616) (o := .cells #[.int .i64 ((rd_T37 x13_2 x18_38).f0), .int .i64 ((rd_T37 x13_2 x18_38).f1), .int .i64 ((rd_T37 x13_2 x18_38).f2), .int .i64 ((rd_T37 x13_2 x18_38).f3), .int .i64 ((rd_T37 x13_2 x18_38).f4)] 37 (0, 0)) (pb_ BK616.out)) (below_size (bg_ GE616.out)))
                   have n3_ := Aside0.mk (blk_below (g := gb616) (o := .cells #[.int .i64 ((rd_T37 x13_2 x18_38).f0), .int .i64 ((rd_T37 x13_2 x18_38).f1), .int .i64 ((rd_T37 x13_2 x18_38).f2), .int .i64 ((rd_T37 x13_2 x18_38).f3), .int .i64 ((rd_T37 x13_2 x18_38).f4)] 37 (0, 0)) (pb_ BK616.out) hb)
                   have n4_ := Aside0.mk (Kd.C_below (by repeat (first | (with_reducible exact HR630.out) | (with_reducible refine Kd.C_alloc ?_ _) | (with_reducible refine Kd.C_drewN ?_ _) | (with_reducible refine Kd.C_drew ?_) | exact HR630.out)) hb)
                   have n5_ := Aside0.mk (Kd.C_below (by repeat (first | (with_reducible exact HR637.out) | (with_reducible refine Kd.C_alloc ?_ _) | (with_reducible refine Kd.C_drewN ?_ _) | (with_reducible refine Kd.C_drew ?_) | exact HR637.out)) hb)
                   have n6_ := Aside0.mk (below_step (bg_ GE616.out) hb)
                   clear HO_13
                   clear HO_14
                   clear BK616
                   clear HR630
                   clear HR637
                   clear HB
                   have HO_13 := n0_
                   have HO_14 := n1_
                   have HO626 := n2_
                   have BK616 := n3_
                   have HR630 := n4_
                   have HR637 := n5_
                   have HB := n6_
                   clear n0_ n1_ n2_ n3_ n4_ n5_ n6_
                   clear hb ho70
                   refine hK.out _ _ trivial (fun hHeld => ?_)
                   clear hK K
                   refine norm_ (a' := ?_) ?_ ?_
                   rotate_left
                   ·
                    show Act.put _ (some 117) _ = _
                    exact sp_
                   refine one_ (i := 4) (N := some 121) #[true, true, true, true, true, true, true, true, true, false, false] rfl rfl (one_of HT_.out kr_) (by decide) (fun K hK => ?_)
                   refine Kd.R_append_rows_step k37 (w0 := w) w.heap.size (by rfl) (.tmp 117) (.tmp 120) 25 37 (.agg #[(.int .i64 0), (.int .i64 0), (.int .i64 0), (.int .i64 0), (.int .i64 0)]) 40 rfl Try.underlying25 info37 rfl (by decide) (by omega) v625 y624 y627 _ _ _ (fun k_ => some k_ ≠ (.slice (some ⟨go46, 0, none⟩) x13_2.length co56 : Value).ownBlock ∧ some k_ ≠ (v596 : Value).ownBlock ∧ k_ ≠ gb616) (fun _ => False) rfl rfl ?aO ?aR (fun _ _ h => h) (fun _ h => h.elim) ?aF ?aB ?aS ?aL ?_
                   (case aR => repeat (first | exact (by repeat (first | (with_reducible exact HR630.out) | (with_reducible refine Kd.C_alloc ?_ _) | (with_reducible refine Kd.C_drewN ?_ _) | (with_reducible refine Kd.C_drew ?_) | exact HR630.out)) | (with_reducible refine Kd.C_alloc ?_ _) | (with_reducible refine Kd.C_drewN ?_ _) | (with_reducible refine Kd.C_drew ?_)))
                   (case aB => exact (bg_ GE616.out))
                   (case aF => exact (fun k_ hk => ⟨Kd.fresh' (Kd.R_lt (pe_ HO_13.out)) k_ hk, Kd.fresh' (Kd.R_lt (pe_ HO_14.out)) k_ hk, Kd.freshB (g := gb616) (o := .cells #[.int .i64 ((rd_T37 x13_2 x18_38).f0), .int .i64 ((rd_T37 x13_2 x18_38).f1), .int .i64 ((rd_T37 x13_2 x18_38).f2), .int .i64 ((rd_T37 x13_2 x18_38).f3), .int .i64 ((rd_T37 x13_2 x18_38).f4)] 37 (0, 0)) (pb_ BK616.out) k_ hk⟩))
                   (case aO => exact (by (with_reducible repeat (first | apply Kd.R_alloc | apply Kd.R_drewN | apply Kd.R_drew)); exact Kd.R_mono HO626.out (fun _ hk => ⟨hk.1.1.2, ⟨hk.1.2, hk.2⟩⟩)))
                   (case aS => exact (below_size (bg_ GE616.out)))
                   (case aL => have := LMc51.out; omega)
                   intro v632 w71 ho hb hg hat
                   rw [← Ny631.out] at ho
                   have n0_ := Aside0.mk (Kd.R_after (ok := (fun k_ => some k_ ≠ (v596 : Value).ownBlock ∧ k_ ≠ gb616)) (pe_ HO_13.out) hg hat)
                   have n1_ := Aside0.mk (Kd.R_after (ok := (fun k_ => some k_ ≠ (.slice (some ⟨go46, 0, none⟩) x13_2.length co56 : Value).ownBlock ∧ k_ ≠ gb616)) (by (with_reducible repeat (first | apply Kd.R_alloc | apply Kd.R_drewN | apply Kd.R_drew)); exact Kd.R_mono HO_14.out (fun _ hk => ⟨⟨hk.1.2, hk.1.1⟩, hk.2⟩)) hg hat)
                   have n2_ := Aside0.mk (blk_grown (g := gb616) (o := .cells #[.int .i64 ((rd_T37 x13_2 x18_38).f0), .int .i64 ((rd_T37 x13_2 x18_38).f1), .int .i64 ((rd_T37 x13_2 x18_38).f2), .int .i64 ((rd_T37 x13_2 x18_38).f3), .int .i64 ((rd_T37 x13_2 x18_38).f4)] 37 (0, 0)) (pb_ BK616.out) hg (Kd.R_away HO626.out (fun _ hk => hk.2)))
                   have n3_ := Aside0.mk (hb)
                   have n4_ := Aside0.mk ((show Kd.C k37 w71 (some ⟨go46, 0, none⟩) y627.length y627 from by rw [Ny627.out]; exact Kd.C_take (m := (x18_38 : Int).toNat) ((Kd.R_reads' (Kd.R_after (ok := (fun k_ => some k_ ≠ (v596 : Value).ownBlock ∧ k_ ≠ gb616)) (pe_ HO_13.out) hg hat)).2.2) KL67.out))
                   have n5_ := Aside0.mk ((show Kd.C k37 w71 A68 y634.length y634 from by rw [Ny634.out, KA68.out]; exact Kd.C_drop (m := ((ji52) : Int).toNat) (c := co56) ((Kd.R_reads' (Kd.R_after (ok := (fun k_ => some k_ ≠ (v596 : Value).ownBlock ∧ k_ ≠ gb616)) (pe_ HO_13.out) hg hat)).2.2) KL68.out (by rw [← KE68.out]; exact (Kd.R_reads' (Kd.R_after (ok := (fun k_ => some k_ ≠ (v596 : Value).ownBlock ∧ k_ ≠ gb616)) (pe_ HO_13.out) hg hat)).2.1)))
                   have n6_ := Aside0.mk (ho)
                   clear HO_13
                   clear HO_14
                   clear BK616
                   clear HB
                   clear HR630
                   clear HR637
                   clear HO626
                   have HO_13 := n0_
                   have HO_14 := n1_
                   have BK616 := n2_
                   have HB := n3_
                   have HR630 := n4_
                   have HR637 := n5_
                   have HO633 := n6_
                   clear n0_ n1_ n2_ n3_ n4_ n5_ n6_
                   clear ho hb hg hat
                   refine hK.out _ _ trivial (fun hHeld => ?_)
                   clear hK K
                   refine norm_ (a' := ?_) ?_ ?_
                   rotate_left
                   ·
                    show Act.put _ (some 121) _ = _
                    exact sp_
                   refine one_ (i := 9) (N := some 126) #[true, true, true, true, true, true, true, true, true, true, false] rfl rfl (one_of HT_.out kr_) (by decide) (fun K hK => ?_)
                   refine Kd.R_append_rows_step k37 (w0 := w) w.heap.size (by rfl) (.tmp 121) (.tmp 125) 25 37 (.agg #[(.int .i64 0), (.int .i64 0), (.int .i64 0), (.int .i64 0), (.int .i64 0)]) 40 rfl Try.underlying25 info37 rfl (by decide) (by omega) v632 y631 y634 _ _ _ (fun k_ => some k_ ≠ (.slice (some ⟨go46, 0, none⟩) x13_2.length co56 : Value).ownBlock ∧ some k_ ≠ (v596 : Value).ownBlock ∧ k_ ≠ gb616) (fun _ => False) rfl rfl ?aO ?aR (fun _ _ h => h) (fun _ h => h.elim) ?aF ?aB ?aS ?aL ?_
                   (case aR => repeat (first | exact (by repeat (first | (with_reducible exact HR637.out) | (with_reducible refine Kd.C_alloc ?_ _) | (with_reducible refine Kd.C_drewN ?_ _) | (with_reducible refine Kd.C_drew ?_) | exact HR637.out)) | (with_reducible refine Kd.C_alloc ?_ _) | (with_reducible refine Kd.C_drewN ?_ _) | (with_reducible refine Kd.C_drew ?_)))
                   (case aB => exact (bg_ GE616.out))
                   (case aF => exact (fun k_ hk => ⟨Kd.fresh' (Kd.R_lt (pe_ HO_13.out)) k_ hk, Kd.fresh' (Kd.R_lt (pe_ HO_14.out)) k_ hk, Kd.freshB (g := gb616) (o := .cells #[.int .i64 ((rd_T37 x13_2 x18_38).f0), .int .i64 ((rd_T37 x13_2 x18_38).f1), .int .i64 ((rd_T37 x13_2 x18_38).f2), .int .i64 ((rd_T37 x13_2 x18_38).f3), .int .i64 ((rd_T37 x13_2 x18_38).f4)] 37 (0, 0)) (pb_ BK616.out) k_ hk⟩))
                   (case aO => exact (pe_ HO633.out))
                   (case aS => exact (below_size (bg_ GE616.out)))
                   (case aL => have := LMc55.out; omega)
                   intro v639 w72 ho hb hg hat
                   rw [← Ny638.out] at ho
                   have n0_ := Aside0.mk (Kd.R_after (ok := (fun k_ => some k_ ≠ (v596 : Value).ownBlock ∧ k_ ≠ gb616)) (pe_ HO_13.out) hg hat)
                   have n1_ := Aside0.mk (Kd.R_after (ok := (fun k_ => some k_ ≠ (.slice (some ⟨go46, 0, none⟩) x13_2.length co56 : Value).ownBlock ∧ k_ ≠ gb616)) (pe_ HO_14.out) hg hat)
                   have n2_ := Aside0.mk (blk_grown (g := gb616) (o := .cells #[.int .i64 ((rd_T37 x13_2 x18_38).f0), .int .i64 ((rd_T37 x13_2 x18_38).f1), .int .i64 ((rd_T37 x13_2 x18_38).f2), .int .i64 ((rd_T37 x13_2 x18_38).f3), .int .i64 ((rd_T37 x13_2 x18_38).f4)] 37 (0, 0)) (pb_ BK616.out) hg (Kd.R_away HO633.out (fun _ hk => hk.2.2)))
                   have n3_ := Aside0.mk (hb)
                   have n4_ := Aside0.mk ((show Kd.C k37 w72 (some ⟨go46, 0, none⟩) y627.length y627 from by rw [Ny627.out]; exact Kd.C_take (m := (x18_38 : Int).toNat) ((Kd.R_reads' (Kd.R_after (ok := (fun k_ => some k_ ≠ (v596 : Value).ownBlock ∧ k_ ≠ gb616)) (pe_ HO_13.out) hg hat)).2.2) KL67.out))
                   have n5_ := Aside0.mk ((show Kd.C k37 w72 A68 y634.length y634 from by rw [Ny634.out, KA68.out]; exact Kd.C_drop (m := ((ji52) : Int).toNat) (c := co56) ((Kd.R_reads' (Kd.R_after (ok := (fun k_ => some k_ ≠ (v596 : Value).ownBlock ∧ k_ ≠ gb616)) (pe_ HO_13.out) hg hat)).2.2) KL68.out (by rw [← KE68.out]; exact (Kd.R_reads' (Kd.R_after (ok := (fun k_ => some k_ ≠ (v596 : Value).ownBlock ∧ k_ ≠ gb616)) (pe_ HO_13.out) hg hat)).2.1)))
                   have n6_ := Aside0.mk (ho)
                   clear HO_13
                   clear HO_14
                   clear BK616
                   clear HB
                   clear HR630
                   clear HR637
                   clear HO633
                   have HO_13 := n0_
                   have HO_14 := n1_
                   have BK616 := n2_
                   have HB := n3_
                   have HR630 := n4_
                   have HR637 := n5_
                   have HO640 := n6_
                   clear n0_ n1_ n2_ n3_ n4_ n5_ n6_
                   clear ho hb hg hat
                   refine hK.out _ _ trivial (fun hHeld => ?_)
                   clear hK K
                   refine norm_ (a' := ?_) ?_ ?_
                   rotate_left
                   ·
                    show Act.put _ (some 126) _ = _
                    exact sp_
                   refine pure_ (i := 10) (N := some 13) (v := ?_) (a' := ?_) #[true, true, true, true, true, true, true, true, true, true, true] rfl rfl (any_of HT_.out kr_) (fun _ _ _ h => h) (Or.inl ⟨by rfl, ?_⟩) ?_ ?_
                   rotate_left
                   ·
                    intro w'
                    go_simp
                    with_reducible rfl
                   rotate_left
                   ·
                    exact sp_
                   refine done_ (done_of HT_.out kr_) ?_
                   try go_wp2
                   go_roundg kj38
                   case measure => have := HJ5.out; have := HK2.out; have := HJ38.out; omega
                   case rel => exact ⟨(wrap64 (x3_2 - t617)), (y638), (x14_2), (wrap64 (x17_2 + t618)), (by first | rfl | (simp; done) | (simp [*]; done)), (by first | rfl | (simp; done) | (simp [*]; done)), H', ⟨by have := HJ5.out; have := HK2.out; have := HJ38.out; omega⟩, ⟨by (with_reducible repeat (first | apply Kd.R_alloc | apply Kd.R_drewN | apply Kd.R_drew)); exact Kd.R_mono HO640.out (fun _ hk => hk.2.1)⟩, ⟨by (with_reducible repeat (first | apply Kd.R_alloc | apply Kd.R_drewN | apply Kd.R_drew)); exact Kd.R_mono HO_14.out (fun _ hk => hk.2)⟩, ⟨bg_ GE616.out⟩⟩
                  ·
                   rw [if_neg c55] at H
                   exact absurd H (by simp)
                 ·
                  rw [if_neg c54] at H
                  exact absurd H (by simp)
                ·
                 rw [if_neg c53] at H
                 exact absurd H (by simp)
               ·
                rw [if_neg c51] at H
                exact absurd H (by simp)
              ·
               rw [if_neg c50] at H
               exact absurd H (by simp)
             ·
              rw [if_neg c48] at H
              have c48b0 : (((rd_T37 y622 x18_38).f3) == 0) = false := beq_eq_false_iff_ne.mpr c48
              have c48b1 : (((rd_T37 y622 x18_38).f3) != 0) = true := bne_iff_ne.mpr c48
              have H' := Aside0.mk H
              clear H
              obtain ⟨Ao73, co73, eo73⟩ := Kd.R_slice HO_13.out
              subst eo73
              have p615 : 0 ≤ (x18_38 : Int) := od_
              have q615 : x18_38 < (x13_2.length : Int) := od_
              obtain ⟨ad615, e615, hx615_0, hx615_1, hx615_2, hx615_3, hx615_4⟩ := at_T37 (Kd.R_reads' HO_13.out).2.2 x18_38 p615 q615
              cases e615
              replace p615 := eq_true p615
              replace q615 := eq_true q615
              go_wp2_with (first | ((with_reducible refine gate_dst (N := 19) rfl ?_); refine box_event ?hg (N := 19) ?hd (cs := #[.int .i64 0, .int .i64 0, .int .i64 0, .int .i64 0, .int .i64 0]) (t := 37) ?hr ?_; (case hd => rfl); (case hg => rfl); (case hr => first | (go_simp; done) | (go_simp; rfl)); intro gb616 hg w74 hbox hb; have n0_ := Aside0.mk (Kd.R_below (Kd.R_elderB (pe_ HO_13.out) gb616 (Nat.le_of_eq hg.symm)) hb); have n1_ := Aside0.mk (Kd.R_below (Kd.R_elderB (pe_ HO_14.out) gb616 (Nat.le_of_eq hg.symm)) hb); have n2_ := Aside0.mk (below_step (bb_) hb); have n3_ := Aside0.mk (hbox); have n4_ := Aside0.mk ((by rw [hg]; exact (below_size (bb_)) : w.heap.size ≤ gb616)); have n5_ := Aside0.mk ((by rw [hg]; exact (below_size (bb_)) : w.heap.size ≤ gb616)); clear HO_13; clear HO_14; clear HB; have HO_13 := n0_; have HO_14 := n1_; have HB := n2_; have BK616 := n3_; have GW616 := n4_; have GE616 := n5_; clear n0_ n1_ n2_ n3_ n4_ n5_; clear hb hbox hg; have hcz75_0 : w74.cell? ⟨gb616, 0, none⟩ = some (.int .i64 0) := (blk_cell BK616.out 0).trans rfl; have hcz75_1 : w74.cell? ⟨gb616, 1, none⟩ = some (.int .i64 0) := (blk_cell BK616.out 1).trans rfl; have hcz75_2 : w74.cell? ⟨gb616, 2, none⟩ = some (.int .i64 0) := (blk_cell BK616.out 2).trans rfl; have hcz75_3 : w74.cell? ⟨gb616, 3, none⟩ = some (.int .i64 0) := (blk_cell BK616.out 3).trans rfl; have hcz75_4 : w74.cell? ⟨gb616, 4, none⟩ = some (.int .i64 0) := (blk_cell BK616.out 4).trans rfl; have hfz75_0 := blk_frozen BK616.out 0; have hfz75_1 := blk_frozen BK616.out 1; have hfz75_2 := blk_frozen BK616.out 2; have hfz75_3 := blk_frozen BK616.out 3; have hfz75_4 := blk_frozen BK616.out 4) | ((with_reducible refine gate_store (t := 37) (p := 19) rfl ?_); refine store_event (t := 37) (p := 19) (v := ?vo_w76) (w1 := (((((w74.setCell ⟨gb616, 0, none⟩ (.int .i64 ((rd_T37 x13_2 x18_38).f0))).setCell ⟨gb616, 1, none⟩ (.int .i64 ((rd_T37 x13_2 x18_38).f1))).setCell ⟨gb616, 2, none⟩ (.int .i64 ((rd_T37 x13_2 x18_38).f2))).setCell ⟨gb616, 3, none⟩ (.int .i64 ((rd_T37 x13_2 x18_38).f3))).setCell ⟨gb616, 4, none⟩ (.int .i64 ((rd_T37 x13_2 x18_38).f4)))) ?hg ?ho ?hn ?hr ?_; (case ho => rfl); (case hg => rfl); (case hn => rfl); (case hr => first | (go_simp; done) | (go_simp; rfl)); intro w76 hw; have n0_ : Aside0 (Kd.R k37 37 w76 w.heap.size (fun k_ => some k_ ≠ (v596 : Value).ownBlock ∧ k_ ≠ gb616) (.slice (some ad615) x13_2.length co73) x13_2) := ⟨(by rw [hw]; exact (by (with_reducible repeat (first | apply Kd.R_alloc | apply Kd.R_drewN | apply Kd.R_drew)); exact Kd.R_mono (Kd.R_far (p := ⟨gb616, 4, none⟩) (Kd.R_far (p := ⟨gb616, 3, none⟩) (Kd.R_far (p := ⟨gb616, 2, none⟩) (Kd.R_far (p := ⟨gb616, 1, none⟩) (Kd.R_far (p := ⟨gb616, 0, none⟩) (Kd.R_mono HO_13.out (fun k_ hk => (⟨hk, hk.2⟩ : _ ∧ k_ ≠ gb616))) (fun _ hk => hk.2) (.int .i64 ((rd_T37 x13_2 x18_38).f0))) (fun _ hk => hk.2) (.int .i64 ((rd_T37 x13_2 x18_38).f1))) (fun _ hk => hk.2) (.int .i64 ((rd_T37 x13_2 x18_38).f2))) (fun _ hk => hk.2) (.int .i64 ((rd_T37 x13_2 x18_38).f3))) (fun _ hk => hk.2) (.int .i64 ((rd_T37 x13_2 x18_38).f4))) (fun _ hk => ⟨hk.1.1, hk.1.2⟩)))⟩; have n1_ : Aside0 (Kd.R k37 37 w76 w.heap.size (fun k_ => some k_ ≠ (.slice (some ad615) x13_2.length co73 : Value).ownBlock ∧ k_ ≠ gb616) v596 x14_2) := ⟨(by rw [hw]; exact (by (with_reducible repeat (first | apply Kd.R_alloc | apply Kd.R_drewN | apply Kd.R_drew)); exact Kd.R_mono (Kd.R_far (p := ⟨gb616, 4, none⟩) (Kd.R_far (p := ⟨gb616, 3, none⟩) (Kd.R_far (p := ⟨gb616, 2, none⟩) (Kd.R_far (p := ⟨gb616, 1, none⟩) (Kd.R_far (p := ⟨gb616, 0, none⟩) (Kd.R_mono HO_14.out (fun k_ hk => (⟨hk, hk.2⟩ : _ ∧ k_ ≠ gb616))) (fun _ hk => hk.2) (.int .i64 ((rd_T37 x13_2 x18_38).f0))) (fun _ hk => hk.2) (.int .i64 ((rd_T37 x13_2 x18_38).f1))) (fun _ hk => hk.2) (.int .i64 ((rd_T37 x13_2 x18_38).f2))) (fun _ hk => hk.2) (.int .i64 ((rd_T37 x13_2 x18_38).f3))) (fun _ hk => hk.2) (.int .i64 ((rd_T37 x13_2 x18_38).f4))) (fun _ hk => ⟨hk.1.1, hk.1.2⟩)))⟩; have n2_ : Aside0 (w76.heap[gb616]? = some (.cells #[.int .i64 ((rd_T37 x13_2 x18_38).f0), .int .i64 ((rd_T37 x13_2 x18_38).f1), .int .i64 ((rd_T37 x13_2 x18_38).f2), .int .i64 ((rd_T37 x13_2 x18_38).f3), .int .i64 ((rd_T37 x13_2 x18_38).f4)] 37 (0, 0))) := ⟨(by rw [hw]; exact (by (with_reducible repeat (first | refine blk_drewN ?_ _ | refine blk_drew ?_ | refine blk_alloc ?_ _)); refine blk_put (cs := #[.int .i64 ((rd_T37 x13_2 x18_38).f0), .int .i64 ((rd_T37 x13_2 x18_38).f1), .int .i64 ((rd_T37 x13_2 x18_38).f2), .int .i64 ((rd_T37 x13_2 x18_38).f3), .int .i64 0]) ?_ 4 _ rfl; (with_reducible repeat (first | refine blk_drewN ?_ _ | refine blk_drew ?_ | refine blk_alloc ?_ _)); refine blk_put (cs := #[.int .i64 ((rd_T37 x13_2 x18_38).f0), .int .i64 ((rd_T37 x13_2 x18_38).f1), .int .i64 ((rd_T37 x13_2 x18_38).f2), .int .i64 0, .int .i64 0]) ?_ 3 _ rfl; (with_reducible repeat (first | refine blk_drewN ?_ _ | refine blk_drew ?_ | refine blk_alloc ?_ _)); refine blk_put (cs := #[.int .i64 ((rd_T37 x13_2 x18_38).f0), .int .i64 ((rd_T37 x13_2 x18_38).f1), .int .i64 0, .int .i64 0, .int .i64 0]) ?_ 2 _ rfl; (with_reducible repeat (first | refine blk_drewN ?_ _ | refine blk_drew ?_ | refine blk_alloc ?_ _)); refine blk_put (cs := #[.int .i64 ((rd_T37 x13_2 x18_38).f0), .int .i64 0, .int .i64 0, .int .i64 0, .int .i64 0]) ?_ 1 _ rfl; (with_reducible repeat (first | refine blk_drewN ?_ _ | refine blk_drew ?_ | refine blk_alloc ?_ _)); refine blk_put (cs := #[.int .i64 0, .int .i64 0, .int .i64 0, .int .i64 0, .int .i64 0]) ?_ 0 _ rfl; (with_reducible repeat (first | refine blk_drewN ?_ _ | refine blk_drew ?_ | refine blk_alloc ?_ _)); exact BK616.out))⟩; have n3_ : Aside0 (Below w.heap.size w w76) := ⟨(by rw [hw]; exact (bg_ GE616.out))⟩; clear hw; clear HO_13; clear HO_14; clear BK616; clear HB; have HO_13 := n0_; have HO_14 := n1_; have BK616 := n2_; have HB := n3_; clear n0_ n1_ n2_ n3_; have hcz77_0 : w76.cell? ⟨gb616, 0, none⟩ = some (.int .i64 ((rd_T37 x13_2 x18_38).f0)) := (blk_cell BK616.out 0).trans rfl; have hcz77_1 : w76.cell? ⟨gb616, 1, none⟩ = some (.int .i64 ((rd_T37 x13_2 x18_38).f1)) := (blk_cell BK616.out 1).trans rfl; have hcz77_2 : w76.cell? ⟨gb616, 2, none⟩ = some (.int .i64 ((rd_T37 x13_2 x18_38).f2)) := (blk_cell BK616.out 2).trans rfl; have hcz77_3 : w76.cell? ⟨gb616, 3, none⟩ = some (.int .i64 ((rd_T37 x13_2 x18_38).f3)) := (blk_cell BK616.out 3).trans rfl; have hcz77_4 : w76.cell? ⟨gb616, 4, none⟩ = some (.int .i64 ((rd_T37 x13_2 x18_38).f4)) := (blk_cell BK616.out 4).trans rfl; have hfz77_0 := blk_frozen BK616.out 0; have hfz77_1 := blk_frozen BK616.out 1; have hfz77_2 := blk_frozen BK616.out 2; have hfz77_3 := blk_frozen BK616.out 3; have hfz77_4 := blk_frozen BK616.out 4) | ((with_reducible refine gate_callee (f := 63) rfl ?_); refine goesL_ (some 78) rfl rfl Try.func63 kr_ rfl #[.int .i64 ((rd_T37 x13_2 x18_38).f3), .int .i64 x3_2] rfl (bc_) ?_; (with_reducible refine (spec_l1Min.calls ((rd_T37 x13_2 x18_38).f3) x3_2 t617 _ A44.out).mono ?_); rintro e w' ⟨rfl, ⟨nd, rfl⟩⟩; refine ⟨_, rfl, ?_⟩; (try (rw [drewN_self w76]; generalize hq_ : World.drewN w76 _ = w76; have n0_ : Aside0 (Kd.R k37 37 w76 w.heap.size (fun k_ => some k_ ≠ (v596 : Value).ownBlock ∧ k_ ≠ gb616) (.slice (some ad615) x13_2.length co73) x13_2) := ⟨by rw [← hq_]; exact (pe_ HO_13.out)⟩; have n1_ : Aside0 (Kd.R k37 37 w76 w.heap.size (fun k_ => some k_ ≠ (.slice (some ad615) x13_2.length co73 : Value).ownBlock ∧ k_ ≠ gb616) v596 x14_2) := ⟨by rw [← hq_]; exact (pe_ HO_14.out)⟩; have n2_ : Aside0 (w76.heap[gb616]? = some (.cells #[.int .i64 ((rd_T37 x13_2 x18_38).f0), .int .i64 ((rd_T37 x13_2 x18_38).f1), .int .i64 ((rd_T37 x13_2 x18_38).f2), .int .i64 ((rd_T37 x13_2 x18_38).f3), .int .i64 ((rd_T37 x13_2 x18_38).f4)] 37 (0, 0))) := ⟨by rw [← hq_]; exact (pb_ BK616.out)⟩; have n3_ : Aside0 (Below w.heap.size w w76) := ⟨by rw [← hq_]; exact (bg_ GE616.out)⟩; clear HO_13 HO_14 BK616 HB hq_; have HO_13 := n0_; have HO_14 := n1_; have BK616 := n2_; have HB := n3_; clear n0_ n1_ n2_ n3_; have hcy_0 : w76.cell? ⟨gb616, 0, none⟩ = some (.int .i64 ((rd_T37 x13_2 x18_38).f0)) := (blk_cell BK616.out 0).trans rfl; have hfy_0 := blk_frozen BK616.out 0; have hcy_1 : w76.cell? ⟨gb616, 1, none⟩ = some (.int .i64 ((rd_T37 x13_2 x18_38).f1)) := (blk_cell BK616.out 1).trans rfl; have hfy_1 := blk_frozen BK616.out 1; have hcy_2 : w76.cell? ⟨gb616, 2, none⟩ = some (.int .i64 ((rd_T37 x13_2 x18_38).f2)) := (blk_cell BK616.out 2).trans rfl; have hfy_2 := blk_frozen BK616.out 2; have hcy_3 : w76.cell? ⟨gb616, 3, none⟩ = some (.int .i64 ((rd_T37 x13_2 x18_38).f3)) := (blk_cell BK616.out 3).trans rfl; have hfy_3 := blk_frozen BK616.out 3; have hcy_4 : w76.cell? ⟨gb616, 4, none⟩ = some (.int .i64 ((rd_T37 x13_2 x18_38).f4)) := (blk_cell BK616.out 4).trans rfl; have hfy_4 := blk_frozen BK616.out 4))) | ((with_reducible refine gate_callee (f := 64) rfl ?_); refine goesL_ (some 85) rfl rfl Try.func64 kr_ rfl #[.int .i64 ((rd_T37 x13_2 x18_38).f4), .int .i64 t617, .int .i64 ((rd_T37 x13_2 x18_38).f3)] rfl (bc_) ?_; (with_reducible refine (spec_MulDiv.calls kj38 ((rd_T37 x13_2 x18_38).f4) t617 ((rd_T37 x13_2 x18_38).f3) t618 t619 t620 _ A45.out).mono ?_); rintro e w' ⟨rfl, ⟨nd, rfl⟩⟩; refine ⟨_, rfl, ?_⟩; (try (rw [drewN_self w76]; generalize hq_ : World.drewN w76 _ = w76; have n0_ : Aside0 (Kd.R k37 37 w76 w.heap.size (fun k_ => some k_ ≠ (v596 : Value).ownBlock ∧ k_ ≠ gb616) (.slice (some ad615) x13_2.length co73) x13_2) := ⟨by rw [← hq_]; exact (pe_ HO_13.out)⟩; have n1_ : Aside0 (Kd.R k37 37 w76 w.heap.size (fun k_ => some k_ ≠ (.slice (some ad615) x13_2.length co73 : Value).ownBlock ∧ k_ ≠ gb616) v596 x14_2) := ⟨by rw [← hq_]; exact (pe_ HO_14.out)⟩; have n2_ : Aside0 (w76.heap[gb616]? = some (.cells #[.int .i64 ((rd_T37 x13_2 x18_38).f0), .int .i64 ((rd_T37 x13_2 x18_38).f1), .int .i64 ((rd_T37 x13_2 x18_38).f2), .int .i64 ((rd_T37 x13_2 x18_38).f3), .int .i64 ((rd_T37 x13_2 x18_38).f4)] 37 (0, 0))) := ⟨by rw [← hq_]; exact (pb_ BK616.out)⟩; have n3_ : Aside0 (Below w.heap.size w w76) := ⟨by rw [← hq_]; exact (bg_ GE616.out)⟩; clear HO_13 HO_14 BK616 HB hq_; have HO_13 := n0_; have HO_14 := n1_; have BK616 := n2_; have HB := n3_; clear n0_ n1_ n2_ n3_; have hcy_0 : w76.cell? ⟨gb616, 0, none⟩ = some (.int .i64 ((rd_T37 x13_2 x18_38).f0)) := (blk_cell BK616.out 0).trans rfl; have hfy_0 := blk_frozen BK616.out 0; have hcy_1 : w76.cell? ⟨gb616, 1, none⟩ = some (.int .i64 ((rd_T37 x13_2 x18_38).f1)) := (blk_cell BK616.out 1).trans rfl; have hfy_1 := blk_frozen BK616.out 1; have hcy_2 : w76.cell? ⟨gb616, 2, none⟩ = some (.int .i64 ((rd_T37 x13_2 x18_38).f2)) := (blk_cell BK616.out 2).trans rfl; have hfy_2 := blk_frozen BK616.out 2; have hcy_3 : w76.cell? ⟨gb616, 3, none⟩ = some (.int .i64 ((rd_T37 x13_2 x18_38).f3)) := (blk_cell BK616.out 3).trans rfl; have hfy_3 := blk_frozen BK616.out 3; have hcy_4 : w76.cell? ⟨gb616, 4, none⟩ = some (.int .i64 ((rd_T37 x13_2 x18_38).f4)) := (blk_cell BK616.out 4).trans rfl; have hfy_4 := blk_frozen BK616.out 4)); have p46 : 0 ≤ (x18_38 : Int) := od_; have q46 : (x18_38 : Int) < ((x13_2.length : Int) : Int) := od_; obtain ⟨go46, co46, eo46, gb46, gl46, cl46, HG46⟩ := Kd.R_form HO_13.out (by omega); (first | cases eo46 | (injection eo46 with ea_ en_ ec_; (first | subst ea_ | (injection ea_ with ea_; subst ea_)); subst ec_; clear en_)); have GB46 := Aside0.mk gb46; have GG46 := Aside0.mk HG46; clear gb46 gl46 HG46; (first | simp only [add_plain] at hx615_0 | skip); (first | simp only [add_plain] at hx615_1 | skip); (first | simp only [add_plain] at hx615_2 | skip); (first | simp only [add_plain] at hx615_3 | skip); (first | simp only [add_plain] at hx615_4 | skip); obtain ⟨ce46, hcl46, hM46, hcc46, hfr46⟩ := Kd.R_elem HO_13.out z37 (x18_38 : Int) p46 q46; obtain rfl := k37_openM hM46; have hx46_0 : w76.cell? ⟨go46, (x18_38 : Int).toNat * 5, none⟩ = some (.int .i64 ((rd_T37 x13_2 x18_38).f0)) := hcc46 0 _ rfl; have hx46_1 : w76.cell? ⟨go46, (x18_38 : Int).toNat * 5 + 1, none⟩ = some (.int .i64 ((rd_T37 x13_2 x18_38).f1)) := hcc46 1 _ rfl; have hx46_2 : w76.cell? ⟨go46, (x18_38 : Int).toNat * 5 + 2, none⟩ = some (.int .i64 ((rd_T37 x13_2 x18_38).f2)) := hcc46 2 _ rfl; have hx46_3 : w76.cell? ⟨go46, (x18_38 : Int).toNat * 5 + 3, none⟩ = some (.int .i64 ((rd_T37 x13_2 x18_38).f3)) := hcc46 3 _ rfl; have hx46_4 : w76.cell? ⟨go46, (x18_38 : Int).toNat * 5 + 4, none⟩ = some (.int .i64 ((rd_T37 x13_2 x18_38).f4)) := hcc46 4 _ rfl; have hf46_0 : w76.frozen? ⟨go46, (x18_38 : Int).toNat * 5, none⟩ = false := hfr46 0; have hf46_1 : w76.frozen? ⟨go46, (x18_38 : Int).toNat * 5 + 1, none⟩ = false := hfr46 1; have hf46_2 : w76.frozen? ⟨go46, (x18_38 : Int).toNat * 5 + 2, none⟩ = false := hfr46 2; have hf46_3 : w76.frozen? ⟨go46, (x18_38 : Int).toNat * 5 + 3, none⟩ = false := hfr46 3; have hf46_4 : w76.frozen? ⟨go46, (x18_38 : Int).toNat * 5 + 4, none⟩ = false := hfr46 4; clear hcl46 hcc46 hfr46 hM46; replace p46 := eq_true p46; replace q46 := eq_true q46; have HX78 := Aside0.mk (show Kd.R k37 37 w76 w.heap.size (fun k_ => some k_ ≠ (v596 : Value).ownBlock ∧ k_ ≠ gb616) (.slice (some ⟨go46, 0, none⟩) x13_2.length co73) x13_2 from (pe_ HO_13.out)); obtain ⟨ce78, hcl78, hM78, hcc78, hfr78⟩ := Kd.R_elem HX78.out z37 (x18_38 : Int) (od_) (by have h_ : (x18_38 : Int) < ((x13_2.length : Int) : Int) := od_; first | exact h_ | (have e_ := (Kd.R_reads' HO_13.out).1; omega) | simpa using h_); obtain rfl := k37_openM hM78; have HP78 := Kd.R_seg HX78.out (x18_38 : Int) (od_) (by have h_ : (x18_38 : Int) < ((x13_2.length : Int) : Int) := od_; first | exact h_ | (have e_ := (Kd.R_reads' HO_13.out).1; omega) | simpa using h_) (seg := [.int .i64 (wrap64 (((rd_T37 x13_2 x18_38).f3) - t617))]) (j := 3) hcl78 hcc78 (show 4 ≤ 5 from by decide) (x' := (⟨(rd_T37 x13_2 x18_38).f0, (rd_T37 x13_2 x18_38).f1, (rd_T37 x13_2 x18_38).f2, wrap64 (((rd_T37 x13_2 x18_38).f3) - t617), (rd_T37 x13_2 x18_38).f4⟩ : S37)) (k37_mkM _ _ _ (⟨(rd_T37 x13_2 x18_38).f0, (rd_T37 x13_2 x18_38).f1, (rd_T37 x13_2 x18_38).f2, wrap64 (((rd_T37 x13_2 x18_38).f3) - t617), (rd_T37 x13_2 x18_38).f4⟩ : S37) ) (fun _ hk => hk); have hx78_3 := hcc78 3 _ rfl; (try simp only [show (k37).sz = 5 from rfl, Nat.mul_one, Nat.add_zero] at hx78_3); have hf78_3 := hfr78 3; (try simp only [show (k37).sz = 5 from rfl, Nat.mul_one, Nat.add_zero] at hf78_3); clear hcl78 hcc78 hfr78 hM78) | ((with_reducible refine gate_store (t := 3) (p := 102) rfl ?_); refine store_event (t := 3) (p := 102) (v := ?vo_w79) (w1 := (w76.setCell ⟨go46, (x18_38 : Int).toNat * 5 + 3, none⟩ (.int .i64 (wrap64 (((rd_T37 x13_2 x18_38).f3) - t617))))) ?hg ?ho ?hn ?hr ?_; (case ho => rfl); (case hg => rfl); (case hn => rfl); (case hr => first | (go_simp; done) | (go_simp; rfl)); intro w79 hw; have hg : w76.grownBy w79 (some go46) := (by rw [hw]; exact HP78.2); have hp_ : Kd.R k37 37 w79 w.heap.size (fun k_ => some k_ ≠ (v596 : Value).ownBlock ∧ k_ ≠ gb616) (.slice (some ⟨go46, 0, none⟩) x13_2.length co73) y621 := (by rw [hw, Ny621.out]; exact HP78.1); clear HP78; have n0_ := Aside0.mk (hp_); have n1_ := Aside0.mk (Kd.R_after (v := (.slice (some ⟨go46, 0, none⟩) x13_2.length co73)) (v1 := (.slice (some ⟨go46, 0, none⟩) x13_2.length co73)) (ok := (fun k_ => k_ ≠ gb616)) (by (with_reducible repeat (first | apply Kd.R_alloc | apply Kd.R_drewN | apply Kd.R_drew)); exact Kd.R_mono HO_14.out (fun _ hk => ⟨hk.2, hk.1⟩)) hg (.inl rfl)); have n2_ := Aside0.mk (blk_grown (g := gb616) (o := .cells #[.int .i64 ((rd_T37 x13_2 x18_38).f0), .int .i64 ((rd_T37 x13_2 x18_38).f1), .int .i64 ((rd_T37 x13_2 x18_38).f2), .int .i64 ((rd_T37 x13_2 x18_38).f3), .int .i64 ((rd_T37 x13_2 x18_38).f4)] 37 (0, 0)) (pb_ BK616.out) hg (Kd.R_away HO_13.out (fun _ hk => hk.2))); have n3_ := Aside0.mk ((by rw [hw]; exact below_set (HB.out) GB46.out : Below w.heap.size w w79)); clear HO_13; clear HO_14; clear BK616; clear HB; have HO_13 := n0_; have HO_14 := n1_; have BK616 := n2_; have HB := n3_; clear n0_ n1_ n2_ n3_; clear hg hw hp_; have hcz80_0 : w79.cell? ⟨gb616, 0, none⟩ = some (.int .i64 ((rd_T37 x13_2 x18_38).f0)) := (blk_cell BK616.out 0).trans rfl; have hcz80_1 : w79.cell? ⟨gb616, 1, none⟩ = some (.int .i64 ((rd_T37 x13_2 x18_38).f1)) := (blk_cell BK616.out 1).trans rfl; have hcz80_2 : w79.cell? ⟨gb616, 2, none⟩ = some (.int .i64 ((rd_T37 x13_2 x18_38).f2)) := (blk_cell BK616.out 2).trans rfl; have hcz80_3 : w79.cell? ⟨gb616, 3, none⟩ = some (.int .i64 ((rd_T37 x13_2 x18_38).f3)) := (blk_cell BK616.out 3).trans rfl; have hcz80_4 : w79.cell? ⟨gb616, 4, none⟩ = some (.int .i64 ((rd_T37 x13_2 x18_38).f4)) := (blk_cell BK616.out 4).trans rfl; have hfz80_0 := blk_frozen BK616.out 0; have hfz80_1 := blk_frozen BK616.out 1; have hfz80_2 := blk_frozen BK616.out 2; have hfz80_3 := blk_frozen BK616.out 3; have hfz80_4 := blk_frozen BK616.out 4; have p47 : 0 ≤ (x18_38 : Int) := od_; have q47 : (x18_38 : Int) < ((x13_2.length : Int) : Int) := od_; obtain ⟨ce47, hcl47, hM47, hcc47, hfr47⟩ := Kd.R_elem HO_13.out z37 (x18_38 : Int) p47 q47; obtain rfl := k37_openM hM47; have hx47_0 : w79.cell? ⟨go46, (x18_38 : Int).toNat * 5, none⟩ = some (.int .i64 ((rd_T37 y621 x18_38).f0)) := hcc47 0 _ rfl; have hx47_1 : w79.cell? ⟨go46, (x18_38 : Int).toNat * 5 + 1, none⟩ = some (.int .i64 ((rd_T37 y621 x18_38).f1)) := hcc47 1 _ rfl; have hx47_2 : w79.cell? ⟨go46, (x18_38 : Int).toNat * 5 + 2, none⟩ = some (.int .i64 ((rd_T37 y621 x18_38).f2)) := hcc47 2 _ rfl; have hx47_3 : w79.cell? ⟨go46, (x18_38 : Int).toNat * 5 + 3, none⟩ = some (.int .i64 ((rd_T37 y621 x18_38).f3)) := hcc47 3 _ rfl; have hx47_4 : w79.cell? ⟨go46, (x18_38 : Int).toNat * 5 + 4, none⟩ = some (.int .i64 ((rd_T37 y621 x18_38).f4)) := hcc47 4 _ rfl; have hf47_0 : w79.frozen? ⟨go46, (x18_38 : Int).toNat * 5, none⟩ = false := hfr47 0; have hf47_1 : w79.frozen? ⟨go46, (x18_38 : Int).toNat * 5 + 1, none⟩ = false := hfr47 1; have hf47_2 : w79.frozen? ⟨go46, (x18_38 : Int).toNat * 5 + 2, none⟩ = false := hfr47 2; have hf47_3 : w79.frozen? ⟨go46, (x18_38 : Int).toNat * 5 + 3, none⟩ = false := hfr47 3; have hf47_4 : w79.frozen? ⟨go46, (x18_38 : Int).toNat * 5 + 4, none⟩ = false := hfr47 4; clear hcl47 hcc47 hfr47 hM47; replace p47 := eq_true p47; replace q47 := eq_true q47; have HX81 := Aside0.mk (show Kd.R k37 37 w79 w.heap.size (fun k_ => some k_ ≠ (v596 : Value).ownBlock ∧ k_ ≠ gb616) (.slice (some ⟨go46, 0, none⟩) x13_2.length co73) y621 from (pe_ HO_13.out)); obtain ⟨ce81, hcl81, hM81, hcc81, hfr81⟩ := Kd.R_elem HX81.out z37 (x18_38 : Int) (od_) (by have h_ : (x18_38 : Int) < ((x13_2.length : Int) : Int) := od_; first | exact h_ | (have e_ := (Kd.R_reads' HO_13.out).1; omega) | simpa using h_); obtain rfl := k37_openM hM81; have HP81 := Kd.R_seg HX81.out (x18_38 : Int) (od_) (by have h_ : (x18_38 : Int) < ((x13_2.length : Int) : Int) := od_; first | exact h_ | (have e_ := (Kd.R_reads' HO_13.out).1; omega) | simpa using h_) (seg := [.int .i64 (wrap64 (((rd_T37 x13_2 x18_38).f4) - t618))]) (j := 4) hcl81 hcc81 (show 5 ≤ 5 from by decide) (x' := (⟨(rd_T37 y621 x18_38).f0, (rd_T37 y621 x18_38).f1, (rd_T37 y621 x18_38).f2, (rd_T37 y621 x18_38).f3, wrap64 (((rd_T37 x13_2 x18_38).f4) - t618)⟩ : S37)) (k37_mkM _ _ _ (⟨(rd_T37 y621 x18_38).f0, (rd_T37 y621 x18_38).f1, (rd_T37 y621 x18_38).f2, (rd_T37 y621 x18_38).f3, wrap64 (((rd_T37 x13_2 x18_38).f4) - t618)⟩ : S37) ) (fun _ hk => hk); have hx81_4 := hcc81 4 _ rfl; (try simp only [show (k37).sz = 5 from rfl, Nat.mul_one, Nat.add_zero] at hx81_4); have hf81_4 := hfr81 4; (try simp only [show (k37).sz = 5 from rfl, Nat.mul_one, Nat.add_zero] at hf81_4); clear hcl81 hcc81 hfr81 hM81) | ((with_reducible refine gate_store (t := 3) (p := 110) rfl ?_); refine store_event (t := 3) (p := 110) (v := ?vo_w82) (w1 := (w79.setCell ⟨go46, (x18_38 : Int).toNat * 5 + 4, none⟩ (.int .i64 (wrap64 (((rd_T37 x13_2 x18_38).f4) - t618))))) ?hg ?ho ?hn ?hr ?_; (case ho => rfl); (case hg => rfl); (case hn => rfl); (case hr => first | (go_simp; done) | (go_simp; rfl)); intro w82 hw; have hg : w79.grownBy w82 (some go46) := (by rw [hw]; exact HP81.2); have hp_ : Kd.R k37 37 w82 w.heap.size (fun k_ => some k_ ≠ (v596 : Value).ownBlock ∧ k_ ≠ gb616) (.slice (some ⟨go46, 0, none⟩) x13_2.length co73) y622 := (by rw [hw, Ny622.out]; exact HP81.1); clear HP81; have n0_ := Aside0.mk (hp_); have n1_ := Aside0.mk (Kd.R_after (v := (.slice (some ⟨go46, 0, none⟩) x13_2.length co73)) (v1 := (.slice (some ⟨go46, 0, none⟩) x13_2.length co73)) (ok := (fun k_ => k_ ≠ gb616)) (pe_ HO_14.out) hg (.inl rfl)); have n2_ := Aside0.mk (blk_grown (g := gb616) (o := .cells #[.int .i64 ((rd_T37 x13_2 x18_38).f0), .int .i64 ((rd_T37 x13_2 x18_38).f1), .int .i64 ((rd_T37 x13_2 x18_38).f2), .int .i64 ((rd_T37 x13_2 x18_38).f3), .int .i64 ((rd_T37 x13_2 x18_38).f4)] 37 (0, 0)) (pb_ BK616.out) hg (Kd.R_away HO_13.out (fun _ hk => hk.2))); have n3_ := Aside0.mk ((by rw [hw]; exact below_set (HB.out) GB46.out : Below w.heap.size w w82)); clear HO_13; clear HO_14; clear BK616; clear HB; have HO_13 := n0_; have HO_14 := n1_; have BK616 := n2_; have HB := n3_; clear n0_ n1_ n2_ n3_; clear hg hw hp_; have p623 : 0 ≤ (x18_38 : Int) := od_; have q623 : x18_38 < (y622.length : Int) := (by have h_ : (x18_38 : Int) < ((x13_2.length : Int) : Int) := od_; first | (have e_ := (Kd.R_reads' HO_13.out).1; omega) | simpa only [Ny621.out, Ny622.out, List.length_set] using h_); have ql623 : ((x18_38 : Int) < ((x13_2.length : Int) : Int)) = True := eq_true (od_); obtain ⟨ad623, e623, hx623_0, hx623_1, hx623_2, hx623_3, hx623_4⟩ := at_T37 (Kd.R_reads' HO_13.out).2.2 x18_38 p623 q623; obtain rfl : (⟨go46, 0, none⟩ : Addr) = ad623 := (by injection e623); (first | simp only [add_plain] at hx623_0 | simp only [add_at] at hx623_0 | simp only [Addr.add, Nat.zero_add] at hx623_0 | skip); (first | simp only [add_plain] at hx623_1 | simp only [add_at] at hx623_1 | simp only [Addr.add, Nat.zero_add] at hx623_1 | skip); (first | simp only [add_plain] at hx623_2 | simp only [add_at] at hx623_2 | simp only [Addr.add, Nat.zero_add] at hx623_2 | skip); (first | simp only [add_plain] at hx623_3 | simp only [add_at] at hx623_3 | simp only [Addr.add, Nat.zero_add] at hx623_3 | skip); (first | simp only [add_plain] at hx623_4 | simp only [add_at] at hx623_4 | simp only [Addr.add, Nat.zero_add] at hx623_4 | skip); replace p623 := eq_true p623; replace q623 := eq_true q623))
              go_roundg kj38
              case measure => have := HJ5.out; have := HK2.out; have := HJ38.out; omega
              case rel => exact ⟨(wrap64 (x3_2 - t617)), (y622), (x14_2), (wrap64 (x17_2 + t618)), (by first | rfl | (simp; done) | (simp [*]; done)), (by first | rfl | (simp; done) | (simp [*]; done)), H', ⟨by have := HJ5.out; have := HK2.out; have := HJ38.out; omega⟩, ⟨by (with_reducible repeat (first | apply Kd.R_alloc | apply Kd.R_drewN | apply Kd.R_drew)); exact Kd.R_mono HO_13.out (fun _ hk => hk.1)⟩, ⟨by (with_reducible repeat (first | apply Kd.R_alloc | apply Kd.R_drewN | apply Kd.R_drew)); exact Kd.R_mono HO_14.out (fun _ hk => hk.2)⟩, ⟨bg_ GE616.out⟩⟩
            ·
             rw [if_neg c43] at H
             exact absurd H (by simp)
           ·
            rw [if_neg c42] at H
            exact absurd H (by simp)
        ·
         rw [if_neg c38] at H
         have c38b0 : decide (0 < x3_2) = false := decide_eq_false c38
         clear c38
         replace H := Option.bind_eq_some_iff.mp H
         obtain ⟨t612, A830, H⟩ := H
         replace H : (some (t612, x17_2, 0)) = some (r1, r2, r3) := H
         have A83 := Aside0.mk A830
         clear A830
         simp only [Option.some.injEq, Prod.mk.injEq] at H
         obtain ⟨rfl, rfl, rfl⟩ := H
         obtain ⟨Ao84, co84, eo84⟩ := Kd.R_slice HO_14.out
         subst eo84
         obtain ⟨Ao85, co85, eo85⟩ := Kd.R_slice HO_13.out
         subst eo85
         go_wp2_with (first | ((with_reducible refine gate_callee (f := 53) rfl ?_); refine goesL_ (some 129) rfl rfl Try.func53 kr_ rfl #[.slice Ao84 x14_2.length co84, .slice Ao85 x13_2.length co85] rfl (bc_) ?_; (with_reducible refine (spec_l5Merge.calls k2 _ _ x14_2 _ _ x13_2 t612 _ ?side1 ?side2 ?side3 ?side4 A83.out).mono ?_); (case side1 => repeat (first | exact (Kd.R_reads' HO_14.out).2.2 | (with_reducible refine Kd.C_alloc ?_ _) | (with_reducible refine Kd.C_drewN ?_ _) | (with_reducible refine Kd.C_drew ?_))); (case side2 => exact (Kd.R_reads' HO_14.out).2.1); (case side3 => repeat (first | exact (Kd.R_reads' HO_13.out).2.2 | (with_reducible refine Kd.C_alloc ?_ _) | (with_reducible refine Kd.C_drewN ?_ _) | (with_reducible refine Kd.C_drew ?_))); (case side4 => exact (Kd.R_reads' HO_13.out).2.1); rintro e w86 ⟨v613, rfl, ho0, hb⟩; refine ⟨_, rfl, ?_⟩; have n0_ := Aside0.mk (Kd.R_elder' (pe_ HO_13.out) (Kd.R_base ho0) hb); have n1_ := Aside0.mk (Kd.R_elder' (pe_ HO_14.out) (Kd.R_base ho0) hb); have n2_ := Aside0.mk (Kd.R_lower (Kd.R_new' (Kd.R_new' ho0 (Kd.R_lt (pe_ HO_13.out))) (Kd.R_lt (pe_ HO_14.out))) (below_size (bb_))); have n3_ := Aside0.mk (below_step (bb_) hb); clear HO_13; clear HO_14; clear HB; have HO_13 := n0_; have HO_14 := n1_; have HO614 := n2_; have HB := n3_; clear n0_ n1_ n2_ n3_; (try clear hb); (try clear hb2); (try clear hk); (try clear hi); (try clear ho0)))
         go_ret3
         exact ⟨_, er_, by (with_reducible repeat (first | apply Kd.R_alloc | apply Kd.R_drewN | apply Kd.R_drew)); exact Kd.R_mono HO614.out (fun _ hk => trivial), bb_⟩
def bits_Mul64.f (a0 : Int) (a1 : Int) : Option (Int × Int) := some (IntKind.u64.wrap ((IntKind.u64.wrap ((IntKind.u64.wrap ((a0 / 4294967296) * (a1 / 4294967296))) + ((IntKind.u64.wrap ((IntKind.u64.wrap ((a0 / 4294967296) * (Go.bits .and .u64 a1 4294967295))) + ((IntKind.u64.wrap ((Go.bits .and .u64 a0 4294967295) * (Go.bits .and .u64 a1 4294967295))) / 4294967296))) / 4294967296))) + ((IntKind.u64.wrap ((Go.bits .and .u64 (IntKind.u64.wrap ((IntKind.u64.wrap ((a0 / 4294967296) * (Go.bits .and .u64 a1 4294967295))) + ((IntKind.u64.wrap ((Go.bits .and .u64 a0 4294967295) * (Go.bits .and .u64 a1 4294967295))) / 4294967296))) 4294967295) + (IntKind.u64.wrap ((Go.bits .and .u64 a0 4294967295) * (a1 / 4294967296))))) / 4294967296)), IntKind.u64.wrap (a0 * a1))
set_option maxHeartbeats 8000000 in
set_option maxRecDepth 100000 in
theorem bits_Mul64.calls (a0 : Int) (a1 : Int) (r1 : Int) (r2 : Int) (w : World) (h : bits_Mul64.f a0 a1 = some (r1, r2)) :
 Calls Try.prog 97 #[.int .u64 a0, .int .u64 a1] w fun e w' => e = .returned (.tuple #[.int .u64 r1, .int .u64 r2]) ∧ Drawn0 w w' := by
 have H : (some (IntKind.u64.wrap ((IntKind.u64.wrap ((IntKind.u64.wrap ((a0 / 4294967296) * (a1 / 4294967296))) + ((IntKind.u64.wrap ((IntKind.u64.wrap ((a0 / 4294967296) * (Go.bits .and .u64 a1 4294967295))) + ((IntKind.u64.wrap ((Go.bits .and .u64 a0 4294967295) * (Go.bits .and .u64 a1 4294967295))) / 4294967296))) / 4294967296))) + ((IntKind.u64.wrap ((Go.bits .and .u64 (IntKind.u64.wrap ((IntKind.u64.wrap ((a0 / 4294967296) * (Go.bits .and .u64 a1 4294967295))) + ((IntKind.u64.wrap ((Go.bits .and .u64 a0 4294967295) * (Go.bits .and .u64 a1 4294967295))) / 4294967296))) 4294967295) + (IntKind.u64.wrap ((Go.bits .and .u64 a0 4294967295) * (a1 / 4294967296))))) / 4294967296)), IntKind.u64.wrap (a0 * a1))) = some (r1, r2) := h
 clear h
 simp only [Option.some.injEq, Prod.mk.injEq] at H
 obtain ⟨rfl, rfl⟩ := H
 go_enter Try.func97, Try.ntmps97
 go_wp2
 go_ret2
 exact ⟨by first | rfl | (simp; done) | (simp [*]; done), by repeat (first | exact Drawn0.refl _ | apply Drawn0.step)⟩
end Go.Proofs.Ytomanpmffjkkgaa.P
namespace Go.Proofs.Ytomanpmffjkkgaa.P
open Go.RowKit Go.Proofs.YtomanpmffjkkgaaW.PrintWords Go.Proofs.YtomanpmffjkkgaaW.PrintLast Go.Proofs.YtomanpmffjkkgaaW.PrintMore
attribute [local go_sem] max2_int min2_int max_two min_two max_three min_three max_four min_four   -- for this text's walks alone
set_option linter.unusedVariables false
set_option linter.unusedSimpArgs false
def bits_Len64.j0 : Nat → Int → Int → Option (Int)
 | 0, _, _ => none
 | k + 1, x0, x2 => if x0 ≥ 65536 then (if (x0 / 65536) ≥ 256 then (if 0 ≤ (((x0 / 65536) / 256) % 256) then (if (((x0 / 65536) / 256) % 256) < 256 then (some (wrap64 ((wrap64 ((wrap64 (x2 + 16)) + 8)) + (wrap64 (bt (⟨#[0, 1, 2, 2, 3, 3, 3, 3, 4, 4, 4, 4, 4, 4, 4, 4, 5, 5, 5, 5, 5, 5, 5, 5, 5, 5, 5, 5, 5, 5, 5, 5, 6, 6, 6, 6, 6, 6, 6, 6, 6, 6, 6, 6, 6, 6, 6, 6, 6, 6, 6, 6, 6, 6, 6, 6, 6, 6, 6, 6, 6, 6, 6, 6, 7, 7, 7, 7, 7, 7, 7, 7, 7, 7, 7, 7, 7, 7, 7, 7, 7, 7, 7, 7, 7, 7, 7, 7, 7, 7, 7, 7, 7, 7, 7, 7, 7, 7, 7, 7, 7, 7, 7, 7, 7, 7, 7, 7, 7, 7, 7, 7, 7, 7, 7, 7, 7, 7, 7, 7, 7, 7, 7, 7, 7, 7, 7, 7, 8, 8, 8, 8, 8, 8, 8, 8, 8, 8, 8, 8, 8, 8, 8, 8, 8, 8, 8, 8, 8, 8, 8, 8, 8, 8, 8, 8, 8, 8, 8, 8, 8, 8, 8, 8, 8, 8, 8, 8, 8, 8, 8, 8, 8, 8, 8, 8, 8, 8, 8, 8, 8, 8, 8, 8, 8, 8, 8, 8, 8, 8, 8, 8, 8, 8, 8, 8, 8, 8, 8, 8, 8, 8, 8, 8, 8, 8, 8, 8, 8, 8, 8, 8, 8, 8, 8, 8, 8, 8, 8, 8, 8, 8, 8, 8, 8, 8, 8, 8, 8, 8, 8, 8, 8, 8, 8, 8, 8, 8, 8, 8, 8, 8, 8, 8, 8, 8, 8, 8, 8, 8, 8, 8, 8, 8, 8, 8]⟩ : ByteArray) (((x0 / 65536) / 256) % 256)))))) else (none)) else (none)) else (if 0 ≤ ((x0 / 65536) % 256) then (if ((x0 / 65536) % 256) < 256 then (some (wrap64 ((wrap64 (x2 + 16)) + (wrap64 (bt (⟨#[0, 1, 2, 2, 3, 3, 3, 3, 4, 4, 4, 4, 4, 4, 4, 4, 5, 5, 5, 5, 5, 5, 5, 5, 5, 5, 5, 5, 5, 5, 5, 5, 6, 6, 6, 6, 6, 6, 6, 6, 6, 6, 6, 6, 6, 6, 6, 6, 6, 6, 6, 6, 6, 6, 6, 6, 6, 6, 6, 6, 6, 6, 6, 6, 7, 7, 7, 7, 7, 7, 7, 7, 7, 7, 7, 7, 7, 7, 7, 7, 7, 7, 7, 7, 7, 7, 7, 7, 7, 7, 7, 7, 7, 7, 7, 7, 7, 7, 7, 7, 7, 7, 7, 7, 7, 7, 7, 7, 7, 7, 7, 7, 7, 7, 7, 7, 7, 7, 7, 7, 7, 7, 7, 7, 7, 7, 7, 7, 8, 8, 8, 8, 8, 8, 8, 8, 8, 8, 8, 8, 8, 8, 8, 8, 8, 8, 8, 8, 8, 8, 8, 8, 8, 8, 8, 8, 8, 8, 8, 8, 8, 8, 8, 8, 8, 8, 8, 8, 8, 8, 8, 8, 8, 8, 8, 8, 8, 8, 8, 8, 8, 8, 8, 8, 8, 8, 8, 8, 8, 8, 8, 8, 8, 8, 8, 8, 8, 8, 8, 8, 8, 8, 8, 8, 8, 8, 8, 8, 8, 8, 8, 8, 8, 8, 8, 8, 8, 8, 8, 8, 8, 8, 8, 8, 8, 8, 8, 8, 8, 8, 8, 8, 8, 8, 8, 8, 8, 8, 8, 8, 8, 8, 8, 8, 8, 8, 8, 8, 8, 8, 8, 8, 8, 8, 8, 8]⟩ : ByteArray) ((x0 / 65536) % 256)))))) else (none)) else (none))) else (if x0 ≥ 256 then (if 0 ≤ ((x0 / 256) % 256) then (if ((x0 / 256) % 256) < 256 then (some (wrap64 ((wrap64 (x2 + 8)) + (wrap64 (bt (⟨#[0, 1, 2, 2, 3, 3, 3, 3, 4, 4, 4, 4, 4, 4, 4, 4, 5, 5, 5, 5, 5, 5, 5, 5, 5, 5, 5, 5, 5, 5, 5, 5, 6, 6, 6, 6, 6, 6, 6, 6, 6, 6, 6, 6, 6, 6, 6, 6, 6, 6, 6, 6, 6, 6, 6, 6, 6, 6, 6, 6, 6, 6, 6, 6, 7, 7, 7, 7, 7, 7, 7, 7, 7, 7, 7, 7, 7, 7, 7, 7, 7, 7, 7, 7, 7, 7, 7, 7, 7, 7, 7, 7, 7, 7, 7, 7, 7, 7, 7, 7, 7, 7, 7, 7, 7, 7, 7, 7, 7, 7, 7, 7, 7, 7, 7, 7, 7, 7, 7, 7, 7, 7, 7, 7, 7, 7, 7, 7, 8, 8, 8, 8, 8, 8, 8, 8, 8, 8, 8, 8, 8, 8, 8, 8, 8, 8, 8, 8, 8, 8, 8, 8, 8, 8, 8, 8, 8, 8, 8, 8, 8, 8, 8, 8, 8, 8, 8, 8, 8, 8, 8, 8, 8, 8, 8, 8, 8, 8, 8, 8, 8, 8, 8, 8, 8, 8, 8, 8, 8, 8, 8, 8, 8, 8, 8, 8, 8, 8, 8, 8, 8, 8, 8, 8, 8, 8, 8, 8, 8, 8, 8, 8, 8, 8, 8, 8, 8, 8, 8, 8, 8, 8, 8, 8, 8, 8, 8, 8, 8, 8, 8, 8, 8, 8, 8, 8, 8, 8, 8, 8, 8, 8, 8, 8, 8, 8, 8, 8, 8, 8, 8, 8, 8, 8, 8, 8]⟩ : ByteArray) ((x0 / 256) % 256)))))) else (none)) else (none)) else (if 0 ≤ ((x0) % 256) then (if ((x0) % 256) < 256 then (some (wrap64 (x2 + (wrap64 (bt (⟨#[0, 1, 2, 2, 3, 3, 3, 3, 4, 4, 4, 4, 4, 4, 4, 4, 5, 5, 5, 5, 5, 5, 5, 5, 5, 5, 5, 5, 5, 5, 5, 5, 6, 6, 6, 6, 6, 6, 6, 6, 6, 6, 6, 6, 6, 6, 6, 6, 6, 6, 6, 6, 6, 6, 6, 6, 6, 6, 6, 6, 6, 6, 6, 6, 7, 7, 7, 7, 7, 7, 7, 7, 7, 7, 7, 7, 7, 7, 7, 7, 7, 7, 7, 7, 7, 7, 7, 7, 7, 7, 7, 7, 7, 7, 7, 7, 7, 7, 7, 7, 7, 7, 7, 7, 7, 7, 7, 7, 7, 7, 7, 7, 7, 7, 7, 7, 7, 7, 7, 7, 7, 7, 7, 7, 7, 7, 7, 7, 8, 8, 8, 8, 8, 8, 8, 8, 8, 8, 8, 8, 8, 8, 8, 8, 8, 8, 8, 8, 8, 8, 8, 8, 8, 8, 8, 8, 8, 8, 8, 8, 8, 8, 8, 8, 8, 8, 8, 8, 8, 8, 8, 8, 8, 8, 8, 8, 8, 8, 8, 8, 8, 8, 8, 8, 8, 8, 8, 8, 8, 8, 8, 8, 8, 8, 8, 8, 8, 8, 8, 8, 8, 8, 8, 8, 8, 8, 8, 8, 8, 8, 8, 8, 8, 8, 8, 8, 8, 8, 8, 8, 8, 8, 8, 8, 8, 8, 8, 8, 8, 8, 8, 8, 8, 8, 8, 8, 8, 8, 8, 8, 8, 8, 8, 8, 8, 8, 8, 8, 8, 8, 8, 8, 8, 8, 8, 8]⟩ : ByteArray) ((x0) % 256)))))) else (none)) else (none)))
def bits_Len64.f (k : Nat) (a0 : Int) : Option (Int) := if a0 ≥ 4294967296 then (bits_Len64.j0 k (a0 / 4294967296) 32) else (bits_Len64.j0 k a0 0)
set_option maxHeartbeats 8000000 in
set_option maxRecDepth 100000 in
theorem bits_Len64.calls (k : Nat) (a0 : Int) (r : Int) (w : World) (h : bits_Len64.f k a0 = some r) :
 Calls Try.prog 115 #[.int .u64 a0] w fun e w' => e = .returned (.int .i64 r) ∧ Drawn0 w w' := by
 have H : (if a0 ≥ 4294967296 then (bits_Len64.j0 k (a0 / 4294967296) 32) else (bits_Len64.j0 k a0 0)) = some r := h
 clear h
 have HC2 := Aside0.mk H
 clear H
 go_enter Try.func115, Try.ntmps115
 go_upto_if 4 with (fail)
 go_cut [0, 2] (fun v0 v2 wc => ∃ (kq : Nat) (x0_1 : Int) (x2_1 : Int), v0 = .int .u64 x0_1 ∧ v2 = .int .i64 x2_1 ∧ Aside0 (bits_Len64.j0 kq x0_1 x2_1 = some r) ∧ Aside0 (kq ≤ k) ∧ Drawn0 w wc)
 case first =>
  have H := HC2.out
  clear HC2
  by_cases c3 : a0 ≥ 4294967296
  ·
   rw [if_pos c3] at H
   have c3b0 : decide (4294967296 ≤ a0) = true := decide_eq_true c3
   clear c3
   (first | rw [c3b0] | (simp only [i64_w, i32_w]; rw [c3b0]) | skip)
   have H' := Aside0.mk H
   clear H
   go_wp2
   go_meet
   case rel => exact ⟨_, (a0 / 4294967296), (32), (by first | rfl | (simp; done) | (simp [*]; done)), (by first | rfl | (simp; done) | (simp [*]; done)), H', ⟨by first | omega | exact Nat.le_refl _⟩, by repeat (first | exact Drawn0.refl _ | apply Drawn0.step)⟩
  ·
   rw [if_neg c3] at H
   have c3b0 : decide (4294967296 ≤ a0) = false := decide_eq_false c3
   clear c3
   (first | rw [c3b0] | (simp only [i64_w, i32_w]; rw [c3b0]) | skip)
   have H' := Aside0.mk H
   clear H
   go_wp2
   go_meet
   case rel => exact ⟨_, (a0), (0), (by first | rfl | (simp; done) | (simp [*]; done)), (by first | rfl | (simp; done) | (simp [*]; done)), H', ⟨by first | omega | exact Nat.le_refl _⟩, by repeat (first | exact Drawn0.refl _ | apply Drawn0.step)⟩
 case rest =>
  clear HC2
  try clear c1
  try clear p2
  try clear c3
  try clear c3b0
  obtain ⟨kq, x0_1, x2_1, rfl, rfl, HA, HJ1, ⟨mc1, rfl⟩⟩ := hcut
  cases kq with
  | zero => exact absurd HA.out (by simp [bits_Len64.j0])
  | succ kj1 =>
   have H := HA.out
   clear HA
   simp only [bits_Len64.j0] at H
   by_cases c4 : x0_1 ≥ 65536
   ·
    rw [if_pos c4] at H
    have c4b0 : decide (65536 ≤ x0_1) = true := decide_eq_true c4
    clear c4
    by_cases c5 : (x0_1 / 65536) ≥ 256
    ·
     rw [if_pos c5] at H
     have c5b0 : decide (256 ≤ (x0_1 / 65536)) = true := decide_eq_true c5
     clear c5
     obtain ⟨ji6, hji6⟩ : ∃ j_ : Int, (((x0_1 / 65536) / 256) % 256) = j_ := ⟨_, rfl⟩
     replace H : (if 0 ≤ (ji6) then (if (ji6) < 256 then (some (wrap64 ((wrap64 ((wrap64 (x2_1 + 16)) + 8)) + (wrap64 (bt (⟨#[0, 1, 2, 2, 3, 3, 3, 3, 4, 4, 4, 4, 4, 4, 4, 4, 5, 5, 5, 5, 5, 5, 5, 5, 5, 5, 5, 5, 5, 5, 5, 5, 6, 6, 6, 6, 6, 6, 6, 6, 6, 6, 6, 6, 6, 6, 6, 6, 6, 6, 6, 6, 6, 6, 6, 6, 6, 6, 6, 6, 6, 6, 6, 6, 7, 7, 7, 7, 7, 7, 7, 7, 7, 7, 7, 7, 7, 7, 7, 7, 7, 7, 7, 7, 7, 7, 7, 7, 7, 7, 7, 7, 7, 7, 7, 7, 7, 7, 7, 7, 7, 7, 7, 7, 7, 7, 7, 7, 7, 7, 7, 7, 7, 7, 7, 7, 7, 7, 7, 7, 7, 7, 7, 7, 7, 7, 7, 7, 8, 8, 8, 8, 8, 8, 8, 8, 8, 8, 8, 8, 8, 8, 8, 8, 8, 8, 8, 8, 8, 8, 8, 8, 8, 8, 8, 8, 8, 8, 8, 8, 8, 8, 8, 8, 8, 8, 8, 8, 8, 8, 8, 8, 8, 8, 8, 8, 8, 8, 8, 8, 8, 8, 8, 8, 8, 8, 8, 8, 8, 8, 8, 8, 8, 8, 8, 8, 8, 8, 8, 8, 8, 8, 8, 8, 8, 8, 8, 8, 8, 8, 8, 8, 8, 8, 8, 8, 8, 8, 8, 8, 8, 8, 8, 8, 8, 8, 8, 8, 8, 8, 8, 8, 8, 8, 8, 8, 8, 8, 8, 8, 8, 8, 8, 8, 8, 8, 8, 8, 8, 8, 8, 8, 8, 8, 8, 8]⟩ : ByteArray) (ji6)))))) else (none)) else (none)) = some r := by first | (rw [hji6] at H; exact H) | (simp only [hji6] at H ⊢; exact H)
     by_cases c7 : 0 ≤ (ji6)
     ·
      rw [if_pos c7] at H
      have c7b0 : decide (0 ≤ (ji6)) = true := decide_eq_true c7
      clear c7
      by_cases c8 : (ji6) < 256
      ·
       rw [if_pos c8] at H
       have c8b0 : decide ((ji6) < 256) = true := decide_eq_true c8
       clear c8
       obtain rfl := Option.some.inj H
       have p9 : 0 ≤ ((ji6) : Int) := od_
       have q9 : (ji6) < (256 : Int) := od_
       have hx9 := bt_at (⟨#[0, 1, 2, 2, 3, 3, 3, 3, 4, 4, 4, 4, 4, 4, 4, 4, 5, 5, 5, 5, 5, 5, 5, 5, 5, 5, 5, 5, 5, 5, 5, 5, 6, 6, 6, 6, 6, 6, 6, 6, 6, 6, 6, 6, 6, 6, 6, 6, 6, 6, 6, 6, 6, 6, 6, 6, 6, 6, 6, 6, 6, 6, 6, 6, 7, 7, 7, 7, 7, 7, 7, 7, 7, 7, 7, 7, 7, 7, 7, 7, 7, 7, 7, 7, 7, 7, 7, 7, 7, 7, 7, 7, 7, 7, 7, 7, 7, 7, 7, 7, 7, 7, 7, 7, 7, 7, 7, 7, 7, 7, 7, 7, 7, 7, 7, 7, 7, 7, 7, 7, 7, 7, 7, 7, 7, 7, 7, 7, 8, 8, 8, 8, 8, 8, 8, 8, 8, 8, 8, 8, 8, 8, 8, 8, 8, 8, 8, 8, 8, 8, 8, 8, 8, 8, 8, 8, 8, 8, 8, 8, 8, 8, 8, 8, 8, 8, 8, 8, 8, 8, 8, 8, 8, 8, 8, 8, 8, 8, 8, 8, 8, 8, 8, 8, 8, 8, 8, 8, 8, 8, 8, 8, 8, 8, 8, 8, 8, 8, 8, 8, 8, 8, 8, 8, 8, 8, 8, 8, 8, 8, 8, 8, 8, 8, 8, 8, 8, 8, 8, 8, 8, 8, 8, 8, 8, 8, 8, 8, 8, 8, 8, 8, 8, 8, 8, 8, 8, 8, 8, 8, 8, 8, 8, 8, 8, 8, 8, 8, 8, 8, 8, 8, 8, 8, 8, 8]⟩ : ByteArray) (ji6)
       replace p9 := eq_true p9
       replace q9 := eq_true q9
       go_wp2
       go_ret
       exact ⟨by first | rfl | (simp; done) | (simp only [← hji6] <;> (first | rfl | simp)) | (simp [*]; done), by repeat (first | exact Drawn0.refl _ | apply Drawn0.step)⟩
      ·
       rw [if_neg c8] at H
       exact absurd H (by simp)
     ·
      rw [if_neg c7] at H
      exact absurd H (by simp)
    ·
     rw [if_neg c5] at H
     have c5b0 : decide (256 ≤ (x0_1 / 65536)) = false := decide_eq_false c5
     clear c5
     obtain ⟨ji10, hji10⟩ : ∃ j_ : Int, ((x0_1 / 65536) % 256) = j_ := ⟨_, rfl⟩
     replace H : (if 0 ≤ (ji10) then (if (ji10) < 256 then (some (wrap64 ((wrap64 (x2_1 + 16)) + (wrap64 (bt (⟨#[0, 1, 2, 2, 3, 3, 3, 3, 4, 4, 4, 4, 4, 4, 4, 4, 5, 5, 5, 5, 5, 5, 5, 5, 5, 5, 5, 5, 5, 5, 5, 5, 6, 6, 6, 6, 6, 6, 6, 6, 6, 6, 6, 6, 6, 6, 6, 6, 6, 6, 6, 6, 6, 6, 6, 6, 6, 6, 6, 6, 6, 6, 6, 6, 7, 7, 7, 7, 7, 7, 7, 7, 7, 7, 7, 7, 7, 7, 7, 7, 7, 7, 7, 7, 7, 7, 7, 7, 7, 7, 7, 7, 7, 7, 7, 7, 7, 7, 7, 7, 7, 7, 7, 7, 7, 7, 7, 7, 7, 7, 7, 7, 7, 7, 7, 7, 7, 7, 7, 7, 7, 7, 7, 7, 7, 7, 7, 7, 8, 8, 8, 8, 8, 8, 8, 8, 8, 8, 8, 8, 8, 8, 8, 8, 8, 8, 8, 8, 8, 8, 8, 8, 8, 8, 8, 8, 8, 8, 8, 8, 8, 8, 8, 8, 8, 8, 8, 8, 8, 8, 8, 8, 8, 8, 8, 8, 8, 8, 8, 8, 8, 8, 8, 8, 8, 8, 8, 8, 8, 8, 8, 8, 8, 8, 8, 8, 8, 8, 8, 8, 8, 8, 8, 8, 8, 8, 8, 8, 8, 8, 8, 8, 8, 8, 8, 8, 8, 8, 8, 8, 8, 8, 8, 8, 8, 8, 8, 8, 8, 8, 8, 8, 8, 8, 8, 8, 8, 8, 8, 8, 8, 8, 8, 8, 8, 8, 8, 8, 8, 8, 8, 8, 8, 8, 8, 8]⟩ : ByteArray) (ji10)))))) else (none)) else (none)) = some r := by first | (rw [hji10] at H; exact H) | (simp only [hji10] at H ⊢; exact H)
     by_cases c11 : 0 ≤ (ji10)
     ·
      rw [if_pos c11] at H
      have c11b0 : decide (0 ≤ (ji10)) = true := decide_eq_true c11
      clear c11
      by_cases c12 : (ji10) < 256
      ·
       rw [if_pos c12] at H
       have c12b0 : decide ((ji10) < 256) = true := decide_eq_true c12
       clear c12
       obtain rfl := Option.some.inj H
       have p13 : 0 ≤ ((ji10) : Int) := od_
       have q13 : (ji10) < (256 : Int) := od_
       have hx13 := bt_at (⟨#[0, 1, 2, 2, 3, 3, 3, 3, 4, 4, 4, 4, 4, 4, 4, 4, 5, 5, 5, 5, 5, 5, 5, 5, 5, 5, 5, 5, 5, 5, 5, 5, 6, 6, 6, 6, 6, 6, 6, 6, 6, 6, 6, 6, 6, 6, 6, 6, 6, 6, 6, 6, 6, 6, 6, 6, 6, 6, 6, 6, 6, 6, 6, 6, 7, 7, 7, 7, 7, 7, 7, 7, 7, 7, 7, 7, 7, 7, 7, 7, 7, 7, 7, 7, 7, 7, 7, 7, 7, 7, 7, 7, 7, 7, 7, 7, 7, 7, 7, 7, 7, 7, 7, 7, 7, 7, 7, 7, 7, 7, 7, 7, 7, 7, 7, 7, 7, 7, 7, 7, 7, 7, 7, 7, 7, 7, 7, 7, 8, 8, 8, 8, 8, 8, 8, 8, 8, 8, 8, 8, 8, 8, 8, 8, 8, 8, 8, 8, 8, 8, 8, 8, 8, 8, 8, 8, 8, 8, 8, 8, 8, 8, 8, 8, 8, 8, 8, 8, 8, 8, 8, 8, 8, 8, 8, 8, 8, 8, 8, 8, 8, 8, 8, 8, 8, 8, 8, 8, 8, 8, 8, 8, 8, 8, 8, 8, 8, 8, 8, 8, 8, 8, 8, 8, 8, 8, 8, 8, 8, 8, 8, 8, 8, 8, 8, 8, 8, 8, 8, 8, 8, 8, 8, 8, 8, 8, 8, 8, 8, 8, 8, 8, 8, 8, 8, 8, 8, 8, 8, 8, 8, 8, 8, 8, 8, 8, 8, 8, 8, 8, 8, 8, 8, 8, 8, 8]⟩ : ByteArray) (ji10)
       replace p13 := eq_true p13
       replace q13 := eq_true q13
       go_wp2
       go_ret
       exact ⟨by first | rfl | (simp; done) | (simp only [← hji10] <;> (first | rfl | simp)) | (simp [*]; done), by repeat (first | exact Drawn0.refl _ | apply Drawn0.step)⟩
      ·
       rw [if_neg c12] at H
       exact absurd H (by simp)
     ·
      rw [if_neg c11] at H
      exact absurd H (by simp)
   ·
    rw [if_neg c4] at H
    have c4b0 : decide (65536 ≤ x0_1) = false := decide_eq_false c4
    clear c4
    by_cases c14 : x0_1 ≥ 256
    ·
     rw [if_pos c14] at H
     have c14b0 : decide (256 ≤ x0_1) = true := decide_eq_true c14
     clear c14
     obtain ⟨ji15, hji15⟩ : ∃ j_ : Int, ((x0_1 / 256) % 256) = j_ := ⟨_, rfl⟩
     replace H : (if 0 ≤ (ji15) then (if (ji15) < 256 then (some (wrap64 ((wrap64 (x2_1 + 8)) + (wrap64 (bt (⟨#[0, 1, 2, 2, 3, 3, 3, 3, 4, 4, 4, 4, 4, 4, 4, 4, 5, 5, 5, 5, 5, 5, 5, 5, 5, 5, 5, 5, 5, 5, 5, 5, 6, 6, 6, 6, 6, 6, 6, 6, 6, 6, 6, 6, 6, 6, 6, 6, 6, 6, 6, 6, 6, 6, 6, 6, 6, 6, 6, 6, 6, 6, 6, 6, 7, 7, 7, 7, 7, 7, 7, 7, 7, 7, 7, 7, 7, 7, 7, 7, 7, 7, 7, 7, 7, 7, 7, 7, 7, 7, 7, 7, 7, 7, 7, 7, 7, 7, 7, 7, 7, 7, 7, 7, 7, 7, 7, 7, 7, 7, 7, 7, 7, 7, 7, 7, 7, 7, 7, 7, 7, 7, 7, 7, 7, 7, 7, 7, 8, 8, 8, 8, 8, 8, 8, 8, 8, 8, 8, 8, 8, 8, 8, 8, 8, 8, 8, 8, 8, 8, 8, 8, 8, 8, 8, 8, 8, 8, 8, 8, 8, 8, 8, 8, 8, 8, 8, 8, 8, 8, 8, 8, 8, 8, 8, 8, 8, 8, 8, 8, 8, 8, 8, 8, 8, 8, 8, 8, 8, 8, 8, 8, 8, 8, 8, 8, 8, 8, 8, 8, 8, 8, 8, 8, 8, 8, 8, 8, 8, 8, 8, 8, 8, 8, 8, 8, 8, 8, 8, 8, 8, 8, 8, 8, 8, 8, 8, 8, 8, 8, 8, 8, 8, 8, 8, 8, 8, 8, 8, 8, 8, 8, 8, 8, 8, 8, 8, 8, 8, 8, 8, 8, 8, 8, 8, 8]⟩ : ByteArray) (ji15)))))) else (none)) else (none)) = some r := by first | (rw [hji15] at H; exact H) | (simp only [hji15] at H ⊢; exact H)
     by_cases c16 : 0 ≤ (ji15)
     ·
      rw [if_pos c16] at H
      have c16b0 : decide (0 ≤ (ji15)) = true := decide_eq_true c16
      clear c16
      by_cases c17 : (ji15) < 256
      ·
       rw [if_pos c17] at H
       have c17b0 : decide ((ji15) < 256) = true := decide_eq_true c17
       clear c17
       obtain rfl := Option.some.inj H
       have p18 : 0 ≤ ((ji15) : Int) := od_
       have q18 : (ji15) < (256 : Int) := od_
       have hx18 := bt_at (⟨#[0, 1, 2, 2, 3, 3, 3, 3, 4, 4, 4, 4, 4, 4, 4, 4, 5, 5, 5, 5, 5, 5, 5, 5, 5, 5, 5, 5, 5, 5, 5, 5, 6, 6, 6, 6, 6, 6, 6, 6, 6, 6, 6, 6, 6, 6, 6, 6, 6, 6, 6, 6, 6, 6, 6, 6, 6, 6, 6, 6, 6, 6, 6, 6, 7, 7, 7, 7, 7, 7, 7, 7, 7, 7, 7, 7, 7, 7, 7, 7, 7, 7, 7, 7, 7, 7, 7, 7, 7, 7, 7, 7, 7, 7, 7, 7, 7, 7, 7, 7, 7, 7, 7, 7, 7, 7, 7, 7, 7, 7, 7, 7, 7, 7, 7, 7, 7, 7, 7, 7, 7, 7, 7, 7, 7, 7, 7, 7, 8, 8, 8, 8, 8, 8, 8, 8, 8, 8, 8, 8, 8, 8, 8, 8, 8, 8, 8, 8, 8, 8, 8, 8, 8, 8, 8, 8, 8, 8, 8, 8, 8, 8, 8, 8, 8, 8, 8, 8, 8, 8, 8, 8, 8, 8, 8, 8, 8, 8, 8, 8, 8, 8, 8, 8, 8, 8, 8, 8, 8, 8, 8, 8, 8, 8, 8, 8, 8, 8, 8, 8, 8, 8, 8, 8, 8, 8, 8, 8, 8, 8, 8, 8, 8, 8, 8, 8, 8, 8, 8, 8, 8, 8, 8, 8, 8, 8, 8, 8, 8, 8, 8, 8, 8, 8, 8, 8, 8, 8, 8, 8, 8, 8, 8, 8, 8, 8, 8, 8, 8, 8, 8, 8, 8, 8, 8, 8]⟩ : ByteArray) (ji15)
       replace p18 := eq_true p18
       replace q18 := eq_true q18
       go_wp2
       go_ret
       exact ⟨by first | rfl | (simp; done) | (simp only [← hji15] <;> (first | rfl | simp)) | (simp [*]; done), by repeat (first | exact Drawn0.refl _ | apply Drawn0.step)⟩
      ·
       rw [if_neg c17] at H
       exact absurd H (by simp)
     ·
      rw [if_neg c16] at H
      exact absurd H (by simp)
    ·
     rw [if_neg c14] at H
     have c14b0 : decide (256 ≤ x0_1) = false := decide_eq_false c14
     clear c14
     obtain ⟨ji19, hji19⟩ : ∃ j_ : Int, ((x0_1) % 256) = j_ := ⟨_, rfl⟩
     replace H : (if 0 ≤ (ji19) then (if (ji19) < 256 then (some (wrap64 (x2_1 + (wrap64 (bt (⟨#[0, 1, 2, 2, 3, 3, 3, 3, 4, 4, 4, 4, 4, 4, 4, 4, 5, 5, 5, 5, 5, 5, 5, 5, 5, 5, 5, 5, 5, 5, 5, 5, 6, 6, 6, 6, 6, 6, 6, 6, 6, 6, 6, 6, 6, 6, 6, 6, 6, 6, 6, 6, 6, 6, 6, 6, 6, 6, 6, 6, 6, 6, 6, 6, 7, 7, 7, 7, 7, 7, 7, 7, 7, 7, 7, 7, 7, 7, 7, 7, 7, 7, 7, 7, 7, 7, 7, 7, 7, 7, 7, 7, 7, 7, 7, 7, 7, 7, 7, 7, 7, 7, 7, 7, 7, 7, 7, 7, 7, 7, 7, 7, 7, 7, 7, 7, 7, 7, 7, 7, 7, 7, 7, 7, 7, 7, 7, 7, 8, 8, 8, 8, 8, 8, 8, 8, 8, 8, 8, 8, 8, 8, 8, 8, 8, 8, 8, 8, 8, 8, 8, 8, 8, 8, 8, 8, 8, 8, 8, 8, 8, 8, 8, 8, 8, 8, 8, 8, 8, 8, 8, 8, 8, 8, 8, 8, 8, 8, 8, 8, 8, 8, 8, 8, 8, 8, 8, 8, 8, 8, 8, 8, 8, 8, 8, 8, 8, 8, 8, 8, 8, 8, 8, 8, 8, 8, 8, 8, 8, 8, 8, 8, 8, 8, 8, 8, 8, 8, 8, 8, 8, 8, 8, 8, 8, 8, 8, 8, 8, 8, 8, 8, 8, 8, 8, 8, 8, 8, 8, 8, 8, 8, 8, 8, 8, 8, 8, 8, 8, 8, 8, 8, 8, 8, 8, 8]⟩ : ByteArray) (ji19)))))) else (none)) else (none)) = some r := by first | (rw [hji19] at H; exact H) | (simp only [hji19] at H ⊢; exact H)
     by_cases c20 : 0 ≤ (ji19)
     ·
      rw [if_pos c20] at H
      have c20b0 : decide (0 ≤ (ji19)) = true := decide_eq_true c20
      clear c20
      by_cases c21 : (ji19) < 256
      ·
       rw [if_pos c21] at H
       have c21b0 : decide ((ji19) < 256) = true := decide_eq_true c21
       clear c21
       obtain rfl := Option.some.inj H
       have p22 : 0 ≤ ((ji19) : Int) := od_
       have q22 : (ji19) < (256 : Int) := od_
       have hx22 := bt_at (⟨#[0, 1, 2, 2, 3, 3, 3, 3, 4, 4, 4, 4, 4, 4, 4, 4, 5, 5, 5, 5, 5, 5, 5, 5, 5, 5, 5, 5, 5, 5, 5, 5, 6, 6, 6, 6, 6, 6, 6, 6, 6, 6, 6, 6, 6, 6, 6, 6, 6, 6, 6, 6, 6, 6, 6, 6, 6, 6, 6, 6, 6, 6, 6, 6, 7, 7, 7, 7, 7, 7, 7, 7, 7, 7, 7, 7, 7, 7, 7, 7, 7, 7, 7, 7, 7, 7, 7, 7, 7, 7, 7, 7, 7, 7, 7, 7, 7, 7, 7, 7, 7, 7, 7, 7, 7, 7, 7, 7, 7, 7, 7, 7, 7, 7, 7, 7, 7, 7, 7, 7, 7, 7, 7, 7, 7, 7, 7, 7, 8, 8, 8, 8, 8, 8, 8, 8, 8, 8, 8, 8, 8, 8, 8, 8, 8, 8, 8, 8, 8, 8, 8, 8, 8, 8, 8, 8, 8, 8, 8, 8, 8, 8, 8, 8, 8, 8, 8, 8, 8, 8, 8, 8, 8, 8, 8, 8, 8, 8, 8, 8, 8, 8, 8, 8, 8, 8, 8, 8, 8, 8, 8, 8, 8, 8, 8, 8, 8, 8, 8, 8, 8, 8, 8, 8, 8, 8, 8, 8, 8, 8, 8, 8, 8, 8, 8, 8, 8, 8, 8, 8, 8, 8, 8, 8, 8, 8, 8, 8, 8, 8, 8, 8, 8, 8, 8, 8, 8, 8, 8, 8, 8, 8, 8, 8, 8, 8, 8, 8, 8, 8, 8, 8, 8, 8, 8, 8]⟩ : ByteArray) (ji19)
       replace p22 := eq_true p22
       replace q22 := eq_true q22
       go_wp2
       go_ret
       exact ⟨by first | rfl | (simp; done) | (simp only [← hji19] <;> (first | rfl | simp)) | (simp [*]; done), by repeat (first | exact Drawn0.refl _ | apply Drawn0.step)⟩
      ·
       rw [if_neg c21] at H
       exact absurd H (by simp)
     ·
      rw [if_neg c20] at H
      exact absurd H (by simp)
def bits_LeadingZeros64.f (k : Nat) (a0 : Int) : Option (Int) := (bits_Len64.f k a0).bind fun t641 => (some (wrap64 (64 - t641)))
set_option maxHeartbeats 8000000 in
set_option maxRecDepth 100000 in
theorem bits_LeadingZeros64.calls (k : Nat) (a0 : Int) (r : Int) (w : World) (h : bits_LeadingZeros64.f k a0 = some r) :
 Calls Try.prog 105 #[.int .u64 a0] w fun e w' => e = .returned (.int .i64 r) ∧ Drawn0 w w' := by
 have H : ((bits_Len64.f k a0).bind fun t641 => (some (wrap64 (64 - t641)))) = some r := h
 clear h
 replace H := Option.bind_eq_some_iff.mp H
 obtain ⟨t641, A20, H⟩ := H
 replace H : (some (wrap64 (64 - t641))) = some r := H
 have A2 := Aside0.mk A20
 clear A20
 obtain rfl := Option.some.inj H
 go_enter Try.func105, Try.ntmps105
 go_wp2_with (first | ((with_reducible refine gate_callee (f := 115) rfl ?_); refine goesL_ (some 4) rfl rfl Try.func115 kr_ rfl #[.int .u64 a0] rfl (bc_) ?_; (with_reducible refine (bits_Len64.calls k a0 t641 _ A2.out).mono ?_); rintro e w' ⟨rfl, ⟨nd, rfl⟩⟩; refine ⟨_, rfl, ?_⟩))
 go_ret
 exact ⟨by first | rfl | (simp; done) | (simp [*]; done), by repeat (first | exact Drawn0.refl _ | apply Drawn0.step)⟩
mutual
def bits_Div64.j2 : Nat → Int → Int → Int → Int → Int → Int → Int → Int → Option (Int × Int)
 | 0, _, _, _, _, _, _, _, _ => none
 | k + 1, x2, x8, x9, x10, x11, x13, x14, x15 => if x9 = 0 then (none) else (bits_Div64.l1 k x2 x8 x9 x10 x14 x15 (IntKind.u64.wrap ((IntKind.u64.wrap ((IntKind.u64.wrap ((IntKind.u64.wrap (x11 * 4294967296)) + x13)) - (IntKind.u64.wrap (x15 * x2)))) - (IntKind.u64.wrap ((IntKind.u64.wrap (Int.tdiv (IntKind.u64.wrap ((IntKind.u64.wrap ((IntKind.u64.wrap (x11 * 4294967296)) + x13)) - (IntKind.u64.wrap (x15 * x2)))) x9)) * x9)))) (IntKind.u64.wrap ((IntKind.u64.wrap ((IntKind.u64.wrap (x11 * 4294967296)) + x13)) - (IntKind.u64.wrap (x15 * x2)))) (IntKind.u64.wrap (Int.tdiv (IntKind.u64.wrap ((IntKind.u64.wrap ((IntKind.u64.wrap (x11 * 4294967296)) + x13)) - (IntKind.u64.wrap (x15 * x2)))) x9)))
def bits_Div64.l1 : Nat → Int → Int → Int → Int → Int → Int → Int → Int → Int → Option (Int × Int)
 | 0, _, _, _, _, _, _, _, _, _ => none
 | k + 1, x2, x8, x9, x10, x14, x15, x16, x17, x18 => if x18 ≥ 4294967296 then (bits_Div64.j4 k x2 x8 x9 x10 x14 x15 x16 x17 x18 true) else (bits_Div64.j4 k x2 x8 x9 x10 x14 x15 x16 x17 x18 (decide ((IntKind.u64.wrap (x18 * x10)) > (IntKind.u64.wrap ((IntKind.u64.wrap (4294967296 * x16)) + x14)))))
def bits_Div64.j4 : Nat → Int → Int → Int → Int → Int → Int → Int → Int → Int → Bool → Option (Int × Int)
 | 0, _, _, _, _, _, _, _, _, _, _ => none
 | k + 1, x2, x8, x9, x10, x14, x15, x16, x17, x18, x113 => if x113 = true then (if (IntKind.u64.wrap (x16 + x9)) ≥ 4294967296 then (if 0 ≤ x8 then (some (IntKind.u64.wrap ((IntKind.u64.wrap (x15 * 4294967296)) + (IntKind.u64.wrap (x18 - 1))), shr .u64 (IntKind.u64.wrap ((IntKind.u64.wrap ((IntKind.u64.wrap (x17 * 4294967296)) + x14)) - (IntKind.u64.wrap ((IntKind.u64.wrap (x18 - 1)) * x2)))) x8)) else (none)) else (bits_Div64.l1 k x2 x8 x9 x10 x14 x15 (IntKind.u64.wrap (x16 + x9)) x17 (IntKind.u64.wrap (x18 - 1)))) else (if 0 ≤ x8 then (some (IntKind.u64.wrap ((IntKind.u64.wrap (x15 * 4294967296)) + x18), shr .u64 (IntKind.u64.wrap ((IntKind.u64.wrap ((IntKind.u64.wrap (x17 * 4294967296)) + x14)) - (IntKind.u64.wrap (x18 * x2)))) x8)) else (none))
def bits_Div64.l0 : Nat → Int → Int → Int → Int → Int → Int → Int → Int → Int → Option (Int × Int)
 | 0, _, _, _, _, _, _, _, _, _ => none
 | k + 1, x2, x8, x9, x10, x11, x13, x14, x15, x16 => if x15 ≥ 4294967296 then (bits_Div64.j1 k x2 x8 x9 x10 x11 x13 x14 x15 x16 true) else (bits_Div64.j1 k x2 x8 x9 x10 x11 x13 x14 x15 x16 (decide ((IntKind.u64.wrap (x15 * x10)) > (IntKind.u64.wrap ((IntKind.u64.wrap (4294967296 * x16)) + x13)))))
def bits_Div64.j1 : Nat → Int → Int → Int → Int → Int → Int → Int → Int → Int → Bool → Option (Int × Int)
 | 0, _, _, _, _, _, _, _, _, _, _ => none
 | k + 1, x2, x8, x9, x10, x11, x13, x14, x15, x16, x78 => if x78 = true then (if (IntKind.u64.wrap (x16 + x9)) ≥ 4294967296 then (bits_Div64.j2 k x2 x8 x9 x10 x11 x13 x14 (IntKind.u64.wrap (x15 - 1))) else (bits_Div64.l0 k x2 x8 x9 x10 x11 x13 x14 (IntKind.u64.wrap (x15 - 1)) (IntKind.u64.wrap (x16 + x9)))) else (bits_Div64.j2 k x2 x8 x9 x10 x11 x13 x14 x15)
end
def bits_Div64.f (k : Nat) (a0 : Int) (a1 : Int) (a2 : Int) : Option (Int × Int) := if a2 = 0 then (none) else (if a2 ≤ a0 then (none) else (if a0 = 0 then (some (IntKind.u64.wrap (Int.tdiv a1 a2), Int.tmod a1 a2)) else ((bits_LeadingZeros64.f k a2).bind fun t642 => (if 0 ≤ (IntKind.u64.wrap (t642)) then (if 0 ≤ (IntKind.u64.wrap (64 - (IntKind.u64.wrap (t642)))) then (if ((shl .u64 a2 (IntKind.u64.wrap (t642))) / 4294967296) = 0 then (none) else (bits_Div64.l0 k (shl .u64 a2 (IntKind.u64.wrap (t642))) (IntKind.u64.wrap (t642)) ((shl .u64 a2 (IntKind.u64.wrap (t642))) / 4294967296) (Go.bits .and .u64 (shl .u64 a2 (IntKind.u64.wrap (t642))) 4294967295) (Go.bits .or .u64 (shl .u64 a0 (IntKind.u64.wrap (t642))) (shr .u64 a1 (IntKind.u64.wrap (64 - (IntKind.u64.wrap (t642)))))) ((shl .u64 a1 (IntKind.u64.wrap (t642))) / 4294967296) (Go.bits .and .u64 (shl .u64 a1 (IntKind.u64.wrap (t642))) 4294967295) (IntKind.u64.wrap (Int.tdiv (Go.bits .or .u64 (shl .u64 a0 (IntKind.u64.wrap (t642))) (shr .u64 a1 (IntKind.u64.wrap (64 - (IntKind.u64.wrap (t642)))))) ((shl .u64 a2 (IntKind.u64.wrap (t642))) / 4294967296))) (IntKind.u64.wrap ((Go.bits .or .u64 (shl .u64 a0 (IntKind.u64.wrap (t642))) (shr .u64 a1 (IntKind.u64.wrap (64 - (IntKind.u64.wrap (t642)))))) - (IntKind.u64.wrap ((IntKind.u64.wrap (Int.tdiv (Go.bits .or .u64 (shl .u64 a0 (IntKind.u64.wrap (t642))) (shr .u64 a1 (IntKind.u64.wrap (64 - (IntKind.u64.wrap (t642)))))) ((shl .u64 a2 (IntKind.u64.wrap (t642))) / 4294967296))) * ((shl .u64 a2 (IntKind.u64.wrap (t642))) / 4294967296))))))) else (none)) else (none)))))
set_option maxHeartbeats 8000000 in
set_option maxRecDepth 100000 in
theorem bits_Div64.calls (k : Nat) (a0 : Int) (a1 : Int) (a2 : Int) (r1 : Int) (r2 : Int) (w : World) (h : bits_Div64.f k a0 a1 a2 = some (r1, r2)) :
 Calls Try.prog 98 #[.int .u64 a0, .int .u64 a1, .int .u64 a2] w fun e w' => e = .returned (.tuple #[.int .u64 r1, .int .u64 r2]) ∧ Drawn0 w w' := by
 have H : (if a2 = 0 then (none) else (if a2 ≤ a0 then (none) else (if a0 = 0 then (some (IntKind.u64.wrap (Int.tdiv a1 a2), Int.tmod a1 a2)) else ((bits_LeadingZeros64.f k a2).bind fun t642 => (if 0 ≤ (IntKind.u64.wrap (t642)) then (if 0 ≤ (IntKind.u64.wrap (64 - (IntKind.u64.wrap (t642)))) then (if ((shl .u64 a2 (IntKind.u64.wrap (t642))) / 4294967296) = 0 then (none) else (bits_Div64.l0 k (shl .u64 a2 (IntKind.u64.wrap (t642))) (IntKind.u64.wrap (t642)) ((shl .u64 a2 (IntKind.u64.wrap (t642))) / 4294967296) (Go.bits .and .u64 (shl .u64 a2 (IntKind.u64.wrap (t642))) 4294967295) (Go.bits .or .u64 (shl .u64 a0 (IntKind.u64.wrap (t642))) (shr .u64 a1 (IntKind.u64.wrap (64 - (IntKind.u64.wrap (t642)))))) ((shl .u64 a1 (IntKind.u64.wrap (t642))) / 4294967296) (Go.bits .and .u64 (shl .u64 a1 (IntKind.u64.wrap (t642))) 4294967295) (IntKind.u64.wrap (Int.tdiv (Go.bits .or .u64 (shl .u64 a0 (IntKind.u64.wrap (t642))) (shr .u64 a1 (IntKind.u64.wrap (64 - (IntKind.u64.wrap (t642)))))) ((shl .u64 a2 (IntKind.u64.wrap (t642))) / 4294967296))) (IntKind.u64.wrap ((Go.bits .or .u64 (shl .u64 a0 (IntKind.u64.wrap (t642))) (shr .u64 a1 (IntKind.u64.wrap (64 - (IntKind.u64.wrap (t642)))))) - (IntKind.u64.wrap ((IntKind.u64.wrap (Int.tdiv (Go.bits .or .u64 (shl .u64 a0 (IntKind.u64.wrap (t642))) (shr .u64 a1 (IntKind.u64.wrap (64 - (IntKind.u64.wrap (t642)))))) ((shl .u64 a2 (IntKind.u64.wrap (t642))) / 4294967296))) * ((shl .u64 a2 (IntKind.u64.wrap (t642))) / 4294967296))))))) else (none)) else (none)))))) = some (r1, r2) := h
 clear h
 by_cases c4 : a2 = 0
 ·
  rw [if_pos c4] at H
  exact absurd H (by simp)
 ·
  rw [if_neg c4] at H
  have c4b0 : (a2 == 0) = false := beq_eq_false_iff_ne.mpr c4
  have c4b1 : (a2 != 0) = true := bne_iff_ne.mpr c4
  by_cases c5 : a2 ≤ a0
  ·
   rw [if_pos c5] at H
   exact absurd H (by simp)
  ·
   rw [if_neg c5] at H
   have c5b0 : decide (a2 ≤ a0) = false := decide_eq_false c5
   clear c5
   by_cases c6 : a0 = 0
   ·
    rw [if_pos c6] at H
    have c6b0 : (a0 == 0) = true := beq_iff_eq.mpr c6
    have c6b1 : (a0 != 0) = false := bne_eq_false_iff_eq.mpr c6
    clear c6
    simp only [Option.some.injEq, Prod.mk.injEq] at H
    obtain ⟨rfl, rfl⟩ := H
    go_enter Try.func98, Try.ntmps98
    go_wp2
    repeat (go_quiet (fail); try go_wp2)
    go_ret2
    exact ⟨by first | rfl | (simp; done) | (simp [*]; done), by repeat (first | exact Drawn0.refl _ | apply Drawn0.step)⟩
   ·
    rw [if_neg c6] at H
    have c6b0 : (a0 == 0) = false := beq_eq_false_iff_ne.mpr c6
    have c6b1 : (a0 != 0) = true := bne_iff_ne.mpr c6
    replace H := Option.bind_eq_some_iff.mp H
    obtain ⟨t642, A70, H⟩ := H
    replace H : (if 0 ≤ (IntKind.u64.wrap (t642)) then (if 0 ≤ (IntKind.u64.wrap (64 - (IntKind.u64.wrap (t642)))) then (if ((shl .u64 a2 (IntKind.u64.wrap (t642))) / 4294967296) = 0 then (none) else (bits_Div64.l0 k (shl .u64 a2 (IntKind.u64.wrap (t642))) (IntKind.u64.wrap (t642)) ((shl .u64 a2 (IntKind.u64.wrap (t642))) / 4294967296) (Go.bits .and .u64 (shl .u64 a2 (IntKind.u64.wrap (t642))) 4294967295) (Go.bits .or .u64 (shl .u64 a0 (IntKind.u64.wrap (t642))) (shr .u64 a1 (IntKind.u64.wrap (64 - (IntKind.u64.wrap (t642)))))) ((shl .u64 a1 (IntKind.u64.wrap (t642))) / 4294967296) (Go.bits .and .u64 (shl .u64 a1 (IntKind.u64.wrap (t642))) 4294967295) (IntKind.u64.wrap (Int.tdiv (Go.bits .or .u64 (shl .u64 a0 (IntKind.u64.wrap (t642))) (shr .u64 a1 (IntKind.u64.wrap (64 - (IntKind.u64.wrap (t642)))))) ((shl .u64 a2 (IntKind.u64.wrap (t642))) / 4294967296))) (IntKind.u64.wrap ((Go.bits .or .u64 (shl .u64 a0 (IntKind.u64.wrap (t642))) (shr .u64 a1 (IntKind.u64.wrap (64 - (IntKind.u64.wrap (t642)))))) - (IntKind.u64.wrap ((IntKind.u64.wrap (Int.tdiv (Go.bits .or .u64 (shl .u64 a0 (IntKind.u64.wrap (t642))) (shr .u64 a1 (IntKind.u64.wrap (64 - (IntKind.u64.wrap (t642)))))) ((shl .u64 a2 (IntKind.u64.wrap (t642))) / 4294967296))) * ((shl .u64 a2 (IntKind.u64.wrap (t642))) / 4294967296))))))) else (none)) else (none)) = some (r1, r2) := H
    have A7 := Aside0.mk A70
    clear A70
    obtain ⟨ji8, hji8⟩ : ∃ j_ : Int, (IntKind.u64.wrap (t642)) = j_ := ⟨_, rfl⟩
    replace H : (if 0 ≤ (ji8) then (if 0 ≤ (IntKind.u64.wrap (64 - (ji8))) then (if ((shl .u64 a2 (ji8)) / 4294967296) = 0 then (none) else (bits_Div64.l0 k (shl .u64 a2 (ji8)) ji8 ((shl .u64 a2 (ji8)) / 4294967296) (Go.bits .and .u64 (shl .u64 a2 (ji8)) 4294967295) (Go.bits .or .u64 (shl .u64 a0 (ji8)) (shr .u64 a1 (IntKind.u64.wrap (64 - (ji8))))) ((shl .u64 a1 (ji8)) / 4294967296) (Go.bits .and .u64 (shl .u64 a1 (ji8)) 4294967295) (IntKind.u64.wrap (Int.tdiv (Go.bits .or .u64 (shl .u64 a0 (ji8)) (shr .u64 a1 (IntKind.u64.wrap (64 - (ji8))))) ((shl .u64 a2 (ji8)) / 4294967296))) (IntKind.u64.wrap ((Go.bits .or .u64 (shl .u64 a0 (ji8)) (shr .u64 a1 (IntKind.u64.wrap (64 - (ji8))))) - (IntKind.u64.wrap ((IntKind.u64.wrap (Int.tdiv (Go.bits .or .u64 (shl .u64 a0 (ji8)) (shr .u64 a1 (IntKind.u64.wrap (64 - (ji8))))) ((shl .u64 a2 (ji8)) / 4294967296))) * ((shl .u64 a2 (ji8)) / 4294967296))))))) else (none)) else (none)) = some (r1, r2) := by first | (rw [hji8] at H; exact H) | (simp only [hji8] at H ⊢; exact H)
    (try rw [hji8] at A7)
    by_cases c9 : 0 ≤ (ji8)
    ·
     rw [if_pos c9] at H
     have c9b0 := eq_true c9
     have c9b1 : decide (0 ≤ (ji8)) = true := decide_eq_true c9
     clear c9
     obtain ⟨ji10, hji10⟩ : ∃ j_ : Int, (shl .u64 a2 (ji8)) = j_ := ⟨_, rfl⟩
     replace H : (if 0 ≤ (IntKind.u64.wrap (64 - (ji8))) then (if ((ji10) / 4294967296) = 0 then (none) else (bits_Div64.l0 k ji10 ji8 ((ji10) / 4294967296) (Go.bits .and .u64 (ji10) 4294967295) (Go.bits .or .u64 (shl .u64 a0 (ji8)) (shr .u64 a1 (IntKind.u64.wrap (64 - (ji8))))) ((shl .u64 a1 (ji8)) / 4294967296) (Go.bits .and .u64 (shl .u64 a1 (ji8)) 4294967295) (IntKind.u64.wrap (Int.tdiv (Go.bits .or .u64 (shl .u64 a0 (ji8)) (shr .u64 a1 (IntKind.u64.wrap (64 - (ji8))))) ((ji10) / 4294967296))) (IntKind.u64.wrap ((Go.bits .or .u64 (shl .u64 a0 (ji8)) (shr .u64 a1 (IntKind.u64.wrap (64 - (ji8))))) - (IntKind.u64.wrap ((IntKind.u64.wrap (Int.tdiv (Go.bits .or .u64 (shl .u64 a0 (ji8)) (shr .u64 a1 (IntKind.u64.wrap (64 - (ji8))))) ((ji10) / 4294967296))) * ((ji10) / 4294967296))))))) else (none)) = some (r1, r2) := by first | (rw [hji10] at H; exact H) | (simp only [hji10] at H ⊢; exact H)
     (try rw [hji10] at A7)
     have hji10_ : (IntKind.u64.wrap (a2 * 2 ^ min (ji8).toNat 64)) = ji10 := hji10
     have hji10z : (ji8) ≤ 64 → (IntKind.u64.wrap (a2 * 2 ^ (ji8).toNat)) = ji10 := shl_small hji10
     have c11b0 := eq_true (od_ : 0 ≤ (ji8))
     obtain ⟨ji12, hji12⟩ : ∃ j_ : Int, (shl .u64 a0 (ji8)) = j_ := ⟨_, rfl⟩
     replace H : (if 0 ≤ (IntKind.u64.wrap (64 - (ji8))) then (if ((ji10) / 4294967296) = 0 then (none) else (bits_Div64.l0 k ji10 ji8 ((ji10) / 4294967296) (Go.bits .and .u64 (ji10) 4294967295) (Go.bits .or .u64 (ji12) (shr .u64 a1 (IntKind.u64.wrap (64 - (ji8))))) ((shl .u64 a1 (ji8)) / 4294967296) (Go.bits .and .u64 (shl .u64 a1 (ji8)) 4294967295) (IntKind.u64.wrap (Int.tdiv (Go.bits .or .u64 (ji12) (shr .u64 a1 (IntKind.u64.wrap (64 - (ji8))))) ((ji10) / 4294967296))) (IntKind.u64.wrap ((Go.bits .or .u64 (ji12) (shr .u64 a1 (IntKind.u64.wrap (64 - (ji8))))) - (IntKind.u64.wrap ((IntKind.u64.wrap (Int.tdiv (Go.bits .or .u64 (ji12) (shr .u64 a1 (IntKind.u64.wrap (64 - (ji8))))) ((ji10) / 4294967296))) * ((ji10) / 4294967296))))))) else (none)) = some (r1, r2) := by first | (rw [hji12] at H; exact H) | (simp only [hji12] at H ⊢; exact H)
     (try rw [hji12] at A7)
     have hji12_ : (IntKind.u64.wrap (a0 * 2 ^ min (ji8).toNat 64)) = ji12 := hji12
     have hji12z : (ji8) ≤ 64 → (IntKind.u64.wrap (a0 * 2 ^ (ji8).toNat)) = ji12 := shl_small hji12
     obtain ⟨ji13, hji13⟩ : ∃ j_ : Int, (IntKind.u64.wrap (64 - (ji8))) = j_ := ⟨_, rfl⟩
     replace H : (if 0 ≤ (ji13) then (if ((ji10) / 4294967296) = 0 then (none) else (bits_Div64.l0 k ji10 ji8 ((ji10) / 4294967296) (Go.bits .and .u64 (ji10) 4294967295) (Go.bits .or .u64 (ji12) (shr .u64 a1 (ji13))) ((shl .u64 a1 (ji8)) / 4294967296) (Go.bits .and .u64 (shl .u64 a1 (ji8)) 4294967295) (IntKind.u64.wrap (Int.tdiv (Go.bits .or .u64 (ji12) (shr .u64 a1 (ji13))) ((ji10) / 4294967296))) (IntKind.u64.wrap ((Go.bits .or .u64 (ji12) (shr .u64 a1 (ji13))) - (IntKind.u64.wrap ((IntKind.u64.wrap (Int.tdiv (Go.bits .or .u64 (ji12) (shr .u64 a1 (ji13))) ((ji10) / 4294967296))) * ((ji10) / 4294967296))))))) else (none)) = some (r1, r2) := by first | (rw [hji13] at H; exact H) | (simp only [hji13] at H ⊢; exact H)
     (try rw [hji13] at A7)
     by_cases c14 : 0 ≤ (ji13)
     ·
      rw [if_pos c14] at H
      have c14b0 := eq_true c14
      have c14b1 : decide (0 ≤ (ji13)) = true := decide_eq_true c14
      clear c14
      obtain ⟨ji15, hji15⟩ : ∃ j_ : Int, (shr .u64 a1 (ji13)) = j_ := ⟨_, rfl⟩
      replace H : (if ((ji10) / 4294967296) = 0 then (none) else (bits_Div64.l0 k ji10 ji8 ((ji10) / 4294967296) (Go.bits .and .u64 (ji10) 4294967295) (Go.bits .or .u64 (ji12) (ji15)) ((shl .u64 a1 (ji8)) / 4294967296) (Go.bits .and .u64 (shl .u64 a1 (ji8)) 4294967295) (IntKind.u64.wrap (Int.tdiv (Go.bits .or .u64 (ji12) (ji15)) ((ji10) / 4294967296))) (IntKind.u64.wrap ((Go.bits .or .u64 (ji12) (ji15)) - (IntKind.u64.wrap ((IntKind.u64.wrap (Int.tdiv (Go.bits .or .u64 (ji12) (ji15)) ((ji10) / 4294967296))) * ((ji10) / 4294967296))))))) = some (r1, r2) := by first | (rw [hji15] at H; exact H) | (simp only [hji15] at H ⊢; exact H)
      (try rw [hji15] at A7)
      have hji15_ : (a1 / 2 ^ min (ji13).toNat 64) = ji15 := hji15
      have hji15z : (ji13) ≤ 64 → (a1 / 2 ^ (ji13).toNat) = ji15 := shr_small hji15
      have c16b0 := eq_true (od_ : 0 ≤ (ji8))
      obtain ⟨ji17, hji17⟩ : ∃ j_ : Int, (shl .u64 a1 (ji8)) = j_ := ⟨_, rfl⟩
      replace H : (if ((ji10) / 4294967296) = 0 then (none) else (bits_Div64.l0 k ji10 ji8 ((ji10) / 4294967296) (Go.bits .and .u64 (ji10) 4294967295) (Go.bits .or .u64 (ji12) (ji15)) ((ji17) / 4294967296) (Go.bits .and .u64 (ji17) 4294967295) (IntKind.u64.wrap (Int.tdiv (Go.bits .or .u64 (ji12) (ji15)) ((ji10) / 4294967296))) (IntKind.u64.wrap ((Go.bits .or .u64 (ji12) (ji15)) - (IntKind.u64.wrap ((IntKind.u64.wrap (Int.tdiv (Go.bits .or .u64 (ji12) (ji15)) ((ji10) / 4294967296))) * ((ji10) / 4294967296))))))) = some (r1, r2) := by first | (rw [hji17] at H; exact H) | (simp only [hji17] at H ⊢; exact H)
      (try rw [hji17] at A7)
      have hji17_ : (IntKind.u64.wrap (a1 * 2 ^ min (ji8).toNat 64)) = ji17 := hji17
      have hji17z : (ji8) ≤ 64 → (IntKind.u64.wrap (a1 * 2 ^ (ji8).toNat)) = ji17 := shl_small hji17
      by_cases c18 : ((ji10) / 4294967296) = 0
      ·
       rw [if_pos c18] at H
       exact absurd H (by simp)
      ·
       rw [if_neg c18] at H
       have c18b0 : (((ji10) / 4294967296) == 0) = false := beq_eq_false_iff_ne.mpr c18
       have c18b1 : (((ji10) / 4294967296) != 0) = true := bne_iff_ne.mpr c18
       have HC19 := Aside0.mk H
       clear H
       go_enter Try.func98, Try.ntmps98
       go_upto_block 0 with (first | (go_at_call 105; (with_reducible refine (bits_LeadingZeros64.calls k a2 t642 _ A7.out).mono ?_); rintro e w' ⟨rfl, ⟨nd, rfl⟩⟩; (try first | exact ⟨rfl, _, World.drewN_drewN _ _ _⟩ | exact ⟨rfl, _, Eq.trans (World.drewN_drewN _ _ _) (congrArg (World.drewN _) (Nat.add_assoc _ _ _))⟩)))
       repeat (go_quiet (first | (go_at_call 105; (with_reducible refine (bits_LeadingZeros64.calls k a2 t642 _ A7.out).mono ?_); rintro e w' ⟨rfl, ⟨nd, rfl⟩⟩; (try first | exact ⟨rfl, _, World.drewN_drewN _ _ _⟩ | exact ⟨rfl, _, Eq.trans (World.drewN_drewN _ _ _) (congrArg (World.drewN _) (Nat.add_assoc _ _ _))⟩))); go_upto_block 0 with (first | (go_at_call 105; (with_reducible refine (bits_LeadingZeros64.calls k a2 t642 _ A7.out).mono ?_); rintro e w' ⟨rfl, ⟨nd, rfl⟩⟩; (try first | exact ⟨rfl, _, World.drewN_drewN _ _ _⟩ | exact ⟨rfl, _, Eq.trans (World.drewN_drewN _ _ _) (congrArg (World.drewN _) (Nat.add_assoc _ _ _))⟩))))
       (try simp only [Act.put, List.setIfInBounds_toArray, List.set_cons_zero, List.set_cons_succ])
       go_cut [15] (fun v15 wc => ∃ (kq : Nat) (x15_18 : Int), v15 = .int .u64 x15_18 ∧ Aside0 (bits_Div64.j2 kq ji10 ji8 ((ji10) / 4294967296) (Go.bits .and .u64 (ji10) 4294967295) (Go.bits .or .u64 (ji12) (ji15)) ((ji17) / 4294967296) (Go.bits .and .u64 (ji17) 4294967295) x15_18 = some (r1, r2)) ∧ Aside0 (kq ≤ k) ∧ Drawn0 w wc)
       case first =>
        have H := HC19.out
        clear HC19
        have H' := Aside0.mk H
        clear H
        go_wp2
        repeat (go_quiet (fail); try go_wp2)
        go_loopg [15, 16] k (fun kq v15 v16 w' => ∃ (x15_1 : Int) (x16_1 : Int), v15 = .int .u64 x15_1 ∧ v16 = .int .u64 x16_1 ∧ Aside0 (bits_Div64.l0 kq ji10 ji8 ((ji10) / 4294967296) (Go.bits .and .u64 (ji10) 4294967295) (Go.bits .or .u64 (ji12) (ji15)) ((ji17) / 4294967296) (Go.bits .and .u64 (ji17) 4294967295) x15_1 x16_1 = some (r1, r2)) ∧ Aside0 (kq ≤ k) ∧ Drawn0 w w')
        case atStart => exact ⟨(IntKind.u64.wrap (Int.tdiv (Go.bits .or .u64 (ji12) (ji15)) ((ji10) / 4294967296))), (IntKind.u64.wrap ((Go.bits .or .u64 (ji12) (ji15)) - (IntKind.u64.wrap ((IntKind.u64.wrap (Int.tdiv (Go.bits .or .u64 (ji12) (ji15)) ((ji10) / 4294967296))) * ((ji10) / 4294967296))))), (by first | rfl | (simp; done) | (simp only [← hji10, ← hji12, ← hji15] <;> (first | rfl | simp)) | (simp [*]; done)), (by first | rfl | (simp; done) | (simp only [← hji10, ← hji12, ← hji15] <;> (first | rfl | simp)) | (simp [*]; done)), H', ⟨Nat.le_refl _⟩, by repeat (first | exact Drawn0.refl _ | apply Drawn0.step)⟩
        case round =>
         clear H'
         try clear c1
         try clear p2
         try clear c4
         try clear c4b0
         try clear c4b1
         try clear c5
         try clear c5b0
         try clear c6
         try clear c6b0
         try clear c6b1
         try clear c9
         try clear c9b0
         try clear c9b1
         try clear c11
         try clear c11b0
         try clear c14
         try clear c14b0
         try clear c14b1
         try clear c16
         try clear c16b0
         try clear c18
         try clear c18b0
         try clear c18b1
         obtain ⟨x15_1, x16_1, rfl, rfl, HA, HK1, ⟨m1, rfl⟩⟩ := hrel
         cases gk with
         | zero => exact absurd HA.out (by simp [bits_Div64.l0])
         | succ k1 =>
          have H := HA.out
          clear HA
          simp only [bits_Div64.l0] at H
          have HC20 := Aside0.mk H
          clear H
          go_upto_region 17 with (fail)
          repeat (go_quiet (fail); go_upto_region 17 with (fail))
          go_cut [78] (fun v78 wc => ∃ (kq : Nat) (x78_19 : Bool), v78 = .bool x78_19 ∧ Aside0 (bits_Div64.j1 kq ji10 ji8 ((ji10) / 4294967296) (Go.bits .and .u64 (ji10) 4294967295) (Go.bits .or .u64 (ji12) (ji15)) ((ji17) / 4294967296) (Go.bits .and .u64 (ji17) 4294967295) x15_1 x16_1 x78_19 = some (r1, r2)) ∧ Aside0 (kq ≤ k1) ∧ Drawn0 w wc)
          case first =>
           have H := HC20.out
           clear HC20
           by_cases c21 : x15_1 ≥ 4294967296
           ·
            rw [if_pos c21] at H
            have c21b0 : decide (4294967296 ≤ x15_1) = true := decide_eq_true c21
            clear c21
            (first | rw [c21b0] | (simp only [i64_w, i32_w]; rw [c21b0]) | skip)
            have H' := Aside0.mk H
            clear H
            go_wp2
            repeat (go_quiet (fail); try go_wp2)
            go_meet
            case rel => exact ⟨_, (true), (by first | rfl | (simp; done) | (simp [*]; done)), H', ⟨by have := HK1.out; first | omega | exact Nat.le_refl _⟩, by repeat (first | exact Drawn0.refl _ | apply Drawn0.step)⟩
           ·
            rw [if_neg c21] at H
            have c21b0 : decide (4294967296 ≤ x15_1) = false := decide_eq_false c21
            clear c21
            (first | rw [c21b0] | (simp only [i64_w, i32_w]; rw [c21b0]) | skip)
            have H' := Aside0.mk H
            clear H
            go_wp2
            repeat (go_quiet (fail); try go_wp2)
            go_meet
            case rel => exact ⟨_, (decide ((IntKind.u64.wrap (x15_1 * (Go.bits .and .u64 (ji10) 4294967295))) > (IntKind.u64.wrap ((IntKind.u64.wrap (4294967296 * x16_1)) + ((ji17) / 4294967296))))), (by first | rfl | (simp; done) | (simp only [← hji10, ← hji17] <;> (first | rfl | simp)) | (simp [*]; done)), H', ⟨by have := HK1.out; first | omega | exact Nat.le_refl _⟩, by repeat (first | exact Drawn0.refl _ | apply Drawn0.step)⟩
          case rest =>
           clear HC20
           try clear c1
           try clear c2
           try clear p2
           try clear c4
           try clear c4b0
           try clear c4b1
           try clear c5
           try clear c5b0
           try clear c6
           try clear c6b0
           try clear c6b1
           try clear c9
           try clear c9b0
           try clear c9b1
           try clear c11
           try clear c11b0
           try clear c14
           try clear c14b0
           try clear c14b1
           try clear c16
           try clear c16b0
           try clear c18
           try clear c18b0
           try clear c18b1
           try clear c21
           try clear c21b0
           try clear p2
           obtain ⟨kq, x78_19, rfl, HA, HJ19, ⟨mc19, rfl⟩⟩ := hcut
           cases kq with
           | zero => exact absurd HA.out (by simp [bits_Div64.j1])
           | succ kj19 =>
            have H := HA.out
            clear HA
            simp only [bits_Div64.j1] at H
            by_cases c22 : x78_19 = true
            ·
             subst c22
             have H1 : (if (IntKind.u64.wrap (x16_1 + ((ji10) / 4294967296))) ≥ 4294967296 then (bits_Div64.j2 kj19 ji10 ji8 ((ji10) / 4294967296) (Go.bits .and .u64 (ji10) 4294967295) (Go.bits .or .u64 (ji12) (ji15)) ((ji17) / 4294967296) (Go.bits .and .u64 (ji17) 4294967295) (IntKind.u64.wrap (x15_1 - 1))) else (bits_Div64.l0 kj19 ji10 ji8 ((ji10) / 4294967296) (Go.bits .and .u64 (ji10) 4294967295) (Go.bits .or .u64 (ji12) (ji15)) ((ji17) / 4294967296) (Go.bits .and .u64 (ji17) 4294967295) (IntKind.u64.wrap (x15_1 - 1)) (IntKind.u64.wrap (x16_1 + ((ji10) / 4294967296))))) = some (r1, r2) := by rw [if_pos rfl] at H; exact H
             clear H
             have H := H1
             clear H1
             by_cases c23 : (IntKind.u64.wrap (x16_1 + ((ji10) / 4294967296))) ≥ 4294967296
             ·
              rw [if_pos c23] at H
              have c23b0 : decide (4294967296 ≤ (IntKind.u64.wrap (x16_1 + ((ji10) / 4294967296)))) = true := decide_eq_true c23
              clear c23
              have H' := Aside0.mk H
              clear H
              go_wp2
              repeat (go_quiet (fail); try go_wp2)
              go_meet
              case rel => exact ⟨_, (IntKind.u64.wrap (x15_1 - 1)), (by first | rfl | (simp; done) | (simp [*]; done)), H', ⟨by have := HK1.out; have := HJ19.out; first | omega | exact Nat.le_refl _⟩, by repeat (first | exact Drawn0.refl _ | apply Drawn0.step)⟩
             ·
              rw [if_neg c23] at H
              have c23b0 : decide (4294967296 ≤ (IntKind.u64.wrap (x16_1 + ((ji10) / 4294967296)))) = false := decide_eq_false c23
              clear c23
              have H' := Aside0.mk H
              clear H
              go_wp2
              repeat (go_quiet (fail); try go_wp2)
              go_roundg kj19
              case measure => have := HK1.out; have := HJ19.out; omega
              case rel => exact ⟨(IntKind.u64.wrap (x15_1 - 1)), (IntKind.u64.wrap (x16_1 + ((ji10) / 4294967296))), (by first | rfl | (simp; done) | (simp [*]; done)), (by first | rfl | (simp; done) | (simp only [← hji10] <;> (first | rfl | simp)) | (simp [*]; done)), H', ⟨by have := HK1.out; have := HJ19.out; omega⟩, by repeat (first | exact Drawn0.refl _ | apply Drawn0.step)⟩
            ·
             replace c22 := Bool.eq_false_iff.mpr c22
             subst c22
             have H1 : (bits_Div64.j2 kj19 ji10 ji8 ((ji10) / 4294967296) (Go.bits .and .u64 (ji10) 4294967295) (Go.bits .or .u64 (ji12) (ji15)) ((ji17) / 4294967296) (Go.bits .and .u64 (ji17) 4294967295) x15_1) = some (r1, r2) := by rw [if_neg (show ¬ (false = true) by decide)] at H; exact H
             clear H
             have H := H1
             clear H1
             have H' := Aside0.mk H
             clear H
             go_wp2
             repeat (go_quiet (fail); try go_wp2)
             go_meet
             case rel => exact ⟨_, (x15_1), (by first | rfl | (simp; done) | (simp [*]; done)), H', ⟨by have := HK1.out; have := HJ19.out; first | omega | exact Nat.le_refl _⟩, by repeat (first | exact Drawn0.refl _ | apply Drawn0.step)⟩
       case rest =>
        clear HC19
        try clear c1
        try clear c2
        try clear p2
        try clear c4
        try clear c4b0
        try clear c4b1
        try clear c5
        try clear c5b0
        try clear c6
        try clear c6b0
        try clear c6b1
        try clear c9
        try clear c9b0
        try clear c9b1
        try clear c11
        try clear c11b0
        try clear c14
        try clear c14b0
        try clear c14b1
        try clear c16
        try clear c16b0
        try clear c18
        try clear c18b0
        try clear c18b1
        try clear c19
        try clear c21
        try clear c21b0
        try clear c22
        try clear c23
        try clear c23b0
        try clear p2
        obtain ⟨kq, x15_18, rfl, HA, HJ18, ⟨mc18, rfl⟩⟩ := hcut
        cases kq with
        | zero => exact absurd HA.out (by simp [bits_Div64.j2])
        | succ kj18 =>
         have H := HA.out
         clear HA
         simp only [bits_Div64.j2] at H
         by_cases c24 : ((ji10) / 4294967296) = 0
         ·
          rw [if_pos c24] at H
          exact absurd H (by simp)
         ·
          rw [if_neg c24] at H
          have c24b0 : (((ji10) / 4294967296) == 0) = false := beq_eq_false_iff_ne.mpr c24
          have c24b1 : (((ji10) / 4294967296) != 0) = true := bne_iff_ne.mpr c24
          have H' := Aside0.mk H
          clear H
          go_wp2
          repeat (go_quiet (fail); try go_wp2)
          go_loopg [16, 18] kj18 (fun kq v16 v18 w' => ∃ (x16_2 : Int) (x18_2 : Int), v16 = .int .u64 x16_2 ∧ v18 = .int .u64 x18_2 ∧ Aside0 (bits_Div64.l1 kq ji10 ji8 ((ji10) / 4294967296) (Go.bits .and .u64 (ji10) 4294967295) (Go.bits .and .u64 (ji17) 4294967295) x15_18 x16_2 (IntKind.u64.wrap ((IntKind.u64.wrap ((IntKind.u64.wrap ((Go.bits .or .u64 (ji12) (ji15)) * 4294967296)) + ((ji17) / 4294967296))) - (IntKind.u64.wrap (x15_18 * ji10)))) x18_2 = some (r1, r2)) ∧ Aside0 (kq ≤ kj18) ∧ Drawn0 w w')
          case atStart => exact ⟨(IntKind.u64.wrap ((IntKind.u64.wrap ((IntKind.u64.wrap ((IntKind.u64.wrap ((Go.bits .or .u64 (ji12) (ji15)) * 4294967296)) + ((ji17) / 4294967296))) - (IntKind.u64.wrap (x15_18 * ji10)))) - (IntKind.u64.wrap ((IntKind.u64.wrap (Int.tdiv (IntKind.u64.wrap ((IntKind.u64.wrap ((IntKind.u64.wrap ((Go.bits .or .u64 (ji12) (ji15)) * 4294967296)) + ((ji17) / 4294967296))) - (IntKind.u64.wrap (x15_18 * ji10)))) ((ji10) / 4294967296))) * ((ji10) / 4294967296))))), (IntKind.u64.wrap (Int.tdiv (IntKind.u64.wrap ((IntKind.u64.wrap ((IntKind.u64.wrap ((Go.bits .or .u64 (ji12) (ji15)) * 4294967296)) + ((ji17) / 4294967296))) - (IntKind.u64.wrap (x15_18 * ji10)))) ((ji10) / 4294967296))), (by first | rfl | (simp; done) | (simp only [← hji10, ← hji12, ← hji15, ← hji17] <;> (first | rfl | simp)) | (simp [*]; done)), (by first | rfl | (simp; done) | (simp only [← hji10, ← hji12, ← hji15, ← hji17] <;> (first | rfl | simp)) | (simp [*]; done)), H', ⟨Nat.le_refl _⟩, by repeat (first | exact Drawn0.refl _ | apply Drawn0.step)⟩
          case round =>
           clear H'
           try clear c1
           try clear c2
           try clear p2
           try clear c4
           try clear c4b0
           try clear c4b1
           try clear c5
           try clear c5b0
           try clear c6
           try clear c6b0
           try clear c6b1
           try clear c9
           try clear c9b0
           try clear c9b1
           try clear c11
           try clear c11b0
           try clear c14
           try clear c14b0
           try clear c14b1
           try clear c16
           try clear c16b0
           try clear c18
           try clear c18b0
           try clear c18b1
           try clear c19
           try clear c21
           try clear c21b0
           try clear c22
           try clear c23
           try clear c23b0
           try clear c24
           try clear c24b0
           try clear c24b1
           try clear p2
           obtain ⟨x16_2, x18_2, rfl, rfl, HA, HK2, ⟨m2, rfl⟩⟩ := hrel
           cases gk with
           | zero => exact absurd HA.out (by simp [bits_Div64.l1])
           | succ k2 =>
            have H := HA.out
            clear HA
            simp only [bits_Div64.l1] at H
            have HC25 := Aside0.mk H
            clear H
            go_upto_region 24 with (fail)
            repeat (go_quiet (fail); go_upto_region 24 with (fail))
            go_cut [113] (fun v113 wc => ∃ (kq : Nat) (x113_24 : Bool), v113 = .bool x113_24 ∧ Aside0 (bits_Div64.j4 kq ji10 ji8 ((ji10) / 4294967296) (Go.bits .and .u64 (ji10) 4294967295) (Go.bits .and .u64 (ji17) 4294967295) x15_18 x16_2 (IntKind.u64.wrap ((IntKind.u64.wrap ((IntKind.u64.wrap ((Go.bits .or .u64 (ji12) (ji15)) * 4294967296)) + ((ji17) / 4294967296))) - (IntKind.u64.wrap (x15_18 * ji10)))) x18_2 x113_24 = some (r1, r2)) ∧ Aside0 (kq ≤ k2) ∧ Drawn0 w wc)
            case first =>
             have H := HC25.out
             clear HC25
             by_cases c26 : x18_2 ≥ 4294967296
             ·
              rw [if_pos c26] at H
              have c26b0 : decide (4294967296 ≤ x18_2) = true := decide_eq_true c26
              clear c26
              (first | rw [c26b0] | (simp only [i64_w, i32_w]; rw [c26b0]) | skip)
              have H' := Aside0.mk H
              clear H
              go_wp2
              repeat (go_quiet (fail); try go_wp2)
              go_meet
              case rel => exact ⟨_, (true), (by first | rfl | (simp; done) | (simp [*]; done)), H', ⟨by have := HJ18.out; have := HK2.out; first | omega | exact Nat.le_refl _⟩, by repeat (first | exact Drawn0.refl _ | apply Drawn0.step)⟩
             ·
              rw [if_neg c26] at H
              have c26b0 : decide (4294967296 ≤ x18_2) = false := decide_eq_false c26
              clear c26
              (first | rw [c26b0] | (simp only [i64_w, i32_w]; rw [c26b0]) | skip)
              have H' := Aside0.mk H
              clear H
              go_wp2
              repeat (go_quiet (fail); try go_wp2)
              go_meet
              case rel => exact ⟨_, (decide ((IntKind.u64.wrap (x18_2 * (Go.bits .and .u64 (ji10) 4294967295))) > (IntKind.u64.wrap ((IntKind.u64.wrap (4294967296 * x16_2)) + (Go.bits .and .u64 (ji17) 4294967295))))), (by first | rfl | (simp; done) | (simp only [← hji10, ← hji17] <;> (first | rfl | simp)) | (simp [*]; done)), H', ⟨by have := HJ18.out; have := HK2.out; first | omega | exact Nat.le_refl _⟩, by repeat (first | exact Drawn0.refl _ | apply Drawn0.step)⟩
            case rest =>
             clear HC25
             try clear c1
             try clear c2
             try clear p2
             try clear c4
             try clear c4b0
             try clear c4b1
             try clear c5
             try clear c5b0
             try clear c6
             try clear c6b0
             try clear c6b1
             try clear c9
             try clear c9b0
             try clear c9b1
             try clear c11
             try clear c11b0
             try clear c14
             try clear c14b0
             try clear c14b1
             try clear c16
             try clear c16b0
             try clear c18
             try clear c18b0
             try clear c18b1
             try clear c19
             try clear c21
             try clear c21b0
             try clear c22
             try clear c23
             try clear c23b0
             try clear c24
             try clear c24b0
             try clear c24b1
             try clear c26
             try clear c26b0
             try clear p2
             obtain ⟨kq, x113_24, rfl, HA, HJ24, ⟨mc24, rfl⟩⟩ := hcut
             cases kq with
             | zero => exact absurd HA.out (by simp [bits_Div64.j4])
             | succ kj24 =>
              have H := HA.out
              clear HA
              simp only [bits_Div64.j4] at H
              by_cases c27 : x113_24 = true
              ·
               subst c27
               have H1 : (if (IntKind.u64.wrap (x16_2 + ((ji10) / 4294967296))) ≥ 4294967296 then (if 0 ≤ ji8 then (some (IntKind.u64.wrap ((IntKind.u64.wrap (x15_18 * 4294967296)) + (IntKind.u64.wrap (x18_2 - 1))), shr .u64 (IntKind.u64.wrap ((IntKind.u64.wrap ((IntKind.u64.wrap ((IntKind.u64.wrap ((IntKind.u64.wrap ((IntKind.u64.wrap ((Go.bits .or .u64 (ji12) (ji15)) * 4294967296)) + ((ji17) / 4294967296))) - (IntKind.u64.wrap (x15_18 * ji10)))) * 4294967296)) + (Go.bits .and .u64 (ji17) 4294967295))) - (IntKind.u64.wrap ((IntKind.u64.wrap (x18_2 - 1)) * ji10)))) ji8)) else (none)) else (bits_Div64.l1 kj24 ji10 ji8 ((ji10) / 4294967296) (Go.bits .and .u64 (ji10) 4294967295) (Go.bits .and .u64 (ji17) 4294967295) x15_18 (IntKind.u64.wrap (x16_2 + ((ji10) / 4294967296))) (IntKind.u64.wrap ((IntKind.u64.wrap ((IntKind.u64.wrap ((Go.bits .or .u64 (ji12) (ji15)) * 4294967296)) + ((ji17) / 4294967296))) - (IntKind.u64.wrap (x15_18 * ji10)))) (IntKind.u64.wrap (x18_2 - 1)))) = some (r1, r2) := by rw [if_pos rfl] at H; exact H
               clear H
               have H := H1
               clear H1
               by_cases c28 : (IntKind.u64.wrap (x16_2 + ((ji10) / 4294967296))) ≥ 4294967296
               ·
                rw [if_pos c28] at H
                have c28b0 : decide (4294967296 ≤ (IntKind.u64.wrap (x16_2 + ((ji10) / 4294967296)))) = true := decide_eq_true c28
                clear c28
                by_cases c29 : 0 ≤ ji8
                ·
                 rw [if_pos c29] at H
                 have c29b0 := eq_true c29
                 have c29b1 : decide (0 ≤ ji8) = true := decide_eq_true c29
                 clear c29
                 obtain ⟨ji30, hji30⟩ : ∃ j_ : Int, (shr .u64 (IntKind.u64.wrap ((IntKind.u64.wrap ((IntKind.u64.wrap ((IntKind.u64.wrap ((IntKind.u64.wrap ((IntKind.u64.wrap ((Go.bits .or .u64 (ji12) (ji15)) * 4294967296)) + ((ji17) / 4294967296))) - (IntKind.u64.wrap (x15_18 * ji10)))) * 4294967296)) + (Go.bits .and .u64 (ji17) 4294967295))) - (IntKind.u64.wrap ((IntKind.u64.wrap (x18_2 - 1)) * ji10)))) ji8) = j_ := ⟨_, rfl⟩
                 replace H : (some (IntKind.u64.wrap ((IntKind.u64.wrap (x15_18 * 4294967296)) + (IntKind.u64.wrap (x18_2 - 1))), ji30)) = some (r1, r2) := by first | (rw [hji30] at H; exact H) | (simp only [hji30] at H ⊢; exact H)
                 have hji30_ : ((IntKind.u64.wrap ((IntKind.u64.wrap ((IntKind.u64.wrap ((IntKind.u64.wrap ((IntKind.u64.wrap ((IntKind.u64.wrap ((Go.bits .or .u64 (ji12) (ji15)) * 4294967296)) + ((ji17) / 4294967296))) - (IntKind.u64.wrap (x15_18 * ji10)))) * 4294967296)) + (Go.bits .and .u64 (ji17) 4294967295))) - (IntKind.u64.wrap ((IntKind.u64.wrap (x18_2 - 1)) * ji10)))) / 2 ^ min ji8.toNat 64) = ji30 := hji30
                 have hji30z : ji8 ≤ 64 → ((IntKind.u64.wrap ((IntKind.u64.wrap ((IntKind.u64.wrap ((IntKind.u64.wrap ((IntKind.u64.wrap ((IntKind.u64.wrap ((Go.bits .or .u64 (ji12) (ji15)) * 4294967296)) + ((ji17) / 4294967296))) - (IntKind.u64.wrap (x15_18 * ji10)))) * 4294967296)) + (Go.bits .and .u64 (ji17) 4294967295))) - (IntKind.u64.wrap ((IntKind.u64.wrap (x18_2 - 1)) * ji10)))) / 2 ^ ji8.toNat) = ji30 := shr_small hji30
                 simp only [Option.some.injEq, Prod.mk.injEq] at H
                 obtain ⟨rfl, rfl⟩ := H
                 go_wp2
                 repeat (go_quiet (fail); try go_wp2)
                 go_ret2
                 exact ⟨by first | rfl | (simp; done) | (simp only [← hji8, ← hji10, ← hji12, ← hji13, ← hji15, ← hji17, ← hji30] <;> (first | rfl | simp)) | (simp [*]; done), by repeat (first | exact Drawn0.refl _ | apply Drawn0.step)⟩
                ·
                 rw [if_neg c29] at H
                 exact absurd H (by simp)
               ·
                rw [if_neg c28] at H
                have c28b0 : decide (4294967296 ≤ (IntKind.u64.wrap (x16_2 + ((ji10) / 4294967296)))) = false := decide_eq_false c28
                clear c28
                have H' := Aside0.mk H
                clear H
                go_wp2
                repeat (go_quiet (fail); try go_wp2)
                go_roundg kj24
                case measure => have := HJ18.out; have := HK2.out; have := HJ24.out; omega
                case rel => exact ⟨(IntKind.u64.wrap (x16_2 + ((ji10) / 4294967296))), (IntKind.u64.wrap (x18_2 - 1)), (by first | rfl | (simp; done) | (simp only [← hji10] <;> (first | rfl | simp)) | (simp [*]; done)), (by first | rfl | (simp; done) | (simp [*]; done)), H', ⟨by have := HJ18.out; have := HK2.out; have := HJ24.out; omega⟩, by repeat (first | exact Drawn0.refl _ | apply Drawn0.step)⟩
              ·
               replace c27 := Bool.eq_false_iff.mpr c27
               subst c27
               have H1 : (if 0 ≤ ji8 then (some (IntKind.u64.wrap ((IntKind.u64.wrap (x15_18 * 4294967296)) + x18_2), shr .u64 (IntKind.u64.wrap ((IntKind.u64.wrap ((IntKind.u64.wrap ((IntKind.u64.wrap ((IntKind.u64.wrap ((IntKind.u64.wrap ((Go.bits .or .u64 (ji12) (ji15)) * 4294967296)) + ((ji17) / 4294967296))) - (IntKind.u64.wrap (x15_18 * ji10)))) * 4294967296)) + (Go.bits .and .u64 (ji17) 4294967295))) - (IntKind.u64.wrap (x18_2 * ji10)))) ji8)) else (none)) = some (r1, r2) := by rw [if_neg (show ¬ (false = true) by decide)] at H; exact H
               clear H
               have H := H1
               clear H1
               by_cases c31 : 0 ≤ ji8
               ·
                rw [if_pos c31] at H
                have c31b0 := eq_true c31
                have c31b1 : decide (0 ≤ ji8) = true := decide_eq_true c31
                clear c31
                obtain ⟨ji32, hji32⟩ : ∃ j_ : Int, (shr .u64 (IntKind.u64.wrap ((IntKind.u64.wrap ((IntKind.u64.wrap ((IntKind.u64.wrap ((IntKind.u64.wrap ((IntKind.u64.wrap ((Go.bits .or .u64 (ji12) (ji15)) * 4294967296)) + ((ji17) / 4294967296))) - (IntKind.u64.wrap (x15_18 * ji10)))) * 4294967296)) + (Go.bits .and .u64 (ji17) 4294967295))) - (IntKind.u64.wrap (x18_2 * ji10)))) ji8) = j_ := ⟨_, rfl⟩
                replace H : (some (IntKind.u64.wrap ((IntKind.u64.wrap (x15_18 * 4294967296)) + x18_2), ji32)) = some (r1, r2) := by first | (rw [hji32] at H; exact H) | (simp only [hji32] at H ⊢; exact H)
                have hji32_ : ((IntKind.u64.wrap ((IntKind.u64.wrap ((IntKind.u64.wrap ((IntKind.u64.wrap ((IntKind.u64.wrap ((IntKind.u64.wrap ((Go.bits .or .u64 (ji12) (ji15)) * 4294967296)) + ((ji17) / 4294967296))) - (IntKind.u64.wrap (x15_18 * ji10)))) * 4294967296)) + (Go.bits .and .u64 (ji17) 4294967295))) - (IntKind.u64.wrap (x18_2 * ji10)))) / 2 ^ min ji8.toNat 64) = ji32 := hji32
                have hji32z : ji8 ≤ 64 → ((IntKind.u64.wrap ((IntKind.u64.wrap ((IntKind.u64.wrap ((IntKind.u64.wrap ((IntKind.u64.wrap ((IntKind.u64.wrap ((Go.bits .or .u64 (ji12) (ji15)) * 4294967296)) + ((ji17) / 4294967296))) - (IntKind.u64.wrap (x15_18 * ji10)))) * 4294967296)) + (Go.bits .and .u64 (ji17) 4294967295))) - (IntKind.u64.wrap (x18_2 * ji10)))) / 2 ^ ji8.toNat) = ji32 := shr_small hji32
                simp only [Option.some.injEq, Prod.mk.injEq] at H
                obtain ⟨rfl, rfl⟩ := H
                go_wp2
                repeat (go_quiet (fail); try go_wp2)
                go_ret2
                exact ⟨by first | rfl | (simp; done) | (simp only [← hji8, ← hji10, ← hji12, ← hji13, ← hji15, ← hji17, ← hji32] <;> (first | rfl | simp)) | (simp [*]; done), by repeat (first | exact Drawn0.refl _ | apply Drawn0.step)⟩
               ·
                rw [if_neg c31] at H
                exact absurd H (by simp)
     ·
      rw [if_neg c14] at H
      exact absurd H (by simp)
    ·
     rw [if_neg c9] at H
     exact absurd H (by simp)
end Go.Proofs.Ytomanpmffjkkgaa.P
