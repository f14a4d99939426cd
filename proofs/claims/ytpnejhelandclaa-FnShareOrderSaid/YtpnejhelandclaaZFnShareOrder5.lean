/- What the law FnShareOrder leans on, cut out of this repo's own texts by a program of this repo: plain functions, the walks that tie the Go calls to them, the law over lists and numbers, and the row. -/
import Derived.Test.YtpnejhelandclaaZFnShareOrder4
import Derived.RowKit
import Derived.IntWalk
import Derived.Lib.Mul64
import Derived.Laws.BitsLemmas
namespace Go.Proofs.Ytpnejhelandclaa.P
end Go.Proofs.Ytpnejhelandclaa.P
namespace Go.Proofs.Ytpnejhelandclaa.EV
end Go.Proofs.Ytpnejhelandclaa.EV
namespace Go.Proofs.Ytpnejhelandclaa.I1
end Go.Proofs.Ytpnejhelandclaa.I1
namespace Go.Proofs.Ytpnejhelandclaa.TI
end Go.Proofs.Ytpnejhelandclaa.TI
namespace Go.Proofs.Ytpnejhelandclaa.L1
end Go.Proofs.Ytpnejhelandclaa.L1
namespace Go.Proofs.Ytpnejhelandclaa.A2
end Go.Proofs.Ytpnejhelandclaa.A2
namespace Go.Proofs.Ytpnejhelandclaa.W1
end Go.Proofs.Ytpnejhelandclaa.W1
namespace Go.Proofs.Ytpnejhelandclaa.S1
end Go.Proofs.Ytpnejhelandclaa.S1
namespace Go.Proofs.Ytpnejhelandclaa.S2
end Go.Proofs.Ytpnejhelandclaa.S2
namespace Go.Proofs.Ytpnejhelandclaa.S3
end Go.Proofs.Ytpnejhelandclaa.S3
namespace Go.Proofs.Ytpnejhelandclaa.S4
end Go.Proofs.Ytpnejhelandclaa.S4
namespace Go.Proofs.Ytpnejhelandclaa.S5
end Go.Proofs.Ytpnejhelandclaa.S5
namespace Go.Proofs.Ytpnejhelandclaa.P
open Go.RowKit Go.Proofs.YtpnejhelandclaaW.PrintWords Go.Proofs.YtpnejhelandclaaW.PrintLast Go.Proofs.YtpnejhelandclaaW.PrintMore
attribute [local go_sem] max2_int min2_int max_two min_two max_three min_three max_four min_four   -- for this text's walks alone
set_option linter.unusedVariables false
set_option linter.unusedSimpArgs false
def laws_FnShareOrder.l0 : Nat → Int → List Int → List Int → List Int → Int → Int → Option (Bool)
 | 0, _, _, _, _, _, _ => none
 | k + 1, x3, x4, x5, x7, x8, x9 => if x9 < (x5.length : Int) then (if 0 ≤ x9 then ((impl_ShareQuota.f k x3 x4 (rd x5 x9)).bind fun bt464 => (if bt464.2.2 = true then ((laws_within.f k x7 (rd x5 x9)).bind fun t468 => (if t468 = true then (none) else (if x9 > 0 then (if bt464.2.1 > x8 then (none) else (if bt464.2.1 = x8 then (if 0 ≤ (wrap64 (x9 - 1)) then (if (wrap64 (x9 - 1)) < (x5.length : Int) then (if (rd x5 x9) < (rd x5 (wrap64 (x9 - 1))) then (none) else (if x7.length < 17592186044416 then (laws_FnShareOrder.l0 k x3 x4 x5 (x7 ++ [rd x5 x9]) bt464.2.1 (wrap64 (x9 + 1))) else (none))) else (none)) else (none)) else (if x7.length < 17592186044416 then (laws_FnShareOrder.l0 k x3 x4 x5 (x7 ++ [rd x5 x9]) bt464.2.1 (wrap64 (x9 + 1))) else (none)))) else (if x7.length < 17592186044416 then (laws_FnShareOrder.l0 k x3 x4 x5 (x7 ++ [rd x5 x9]) bt464.2.1 (wrap64 (x9 + 1))) else (none))))) else (none))) else (none)) else (some ((x5.length : Int) == (x4.length : Int)))
def laws_FnShareOrder.f (k : Nat) (l0 : List Int) : Option (Bool) := (laws_big.f l0).bind fun t448 => (if t448 = true then (some true) else ((spec_DrawShareOrder.f k l0).bind fun bt449 => ((impl_ShareOrder.f k bt449.1 bt449.2).bind fun t453 => ((spec_ShareOrder.f k bt449.1 bt449.2).bind fun t456 => ((laws_sameInts.f k t453 t456).bind fun t459 => (if t459 = true then (if (t453.length : Int) = 0 then (some true) else (laws_FnShareOrder.l0 k bt449.1 bt449.2 t453 (([] : List Int)) (-1) 0)) else (none)))))))
def laws_FnShareOrder.T16 : Bool × List (List Nat × List Nat) := (true, [([], []), ([0], [0]), ([1], [1]), ([2], [2]), ([2], [2]), ([2], [2]), ([4, 5, 2], [2, 4, 5]), ([6, 2], [2, 6]), ([3, 7, 2, 2], [2, 3, 7]), ([2, 8], [2, 8]), ([9, 8], [9]), ([10], [10]), ([11, 10], [10, 11]), ([12, 10, 10], [10, 12]), ([13], [13]), ([13], [13]), ([14, 15, 13], [13, 14, 15]), ([16, 13, 13], [13, 16]), ([17], [17]), ([17], [17]), ([18, 19, 17], [17, 18, 19]), ([20, 17, 17], [17, 20]), ([21], [21]), ([21], [21]), ([22, 23, 21], [21, 22, 23]), ([24, 21], [21, 24]), ([21], [21]), ([21], [21]), ([27, 21], [21, 27]), ([26, 28, 21], [21, 26, 28]), ([29, 21], [21, 29]), ([25, 30, 21], [21, 25, 30]), ([21, 31, 17], [17, 21, 31]), ([17, 32, 13], [13, 17, 32]), ([13, 33, 10], [10, 13, 33]), ([10, 34], [10, 34])])
def laws_FnShareOrder.B16 : List Nat := [0, 1, 3, 7, 7, 7, 55, 119, 255, 511, 1023, 2047, 4095, 8191, 16383, 16383, 65535, 131071, 262143, 262143, 1048575, 2097151, 4194303, 4194303, 16777215, 33554431, 4194303, 4194303, 138412031, 473956351, 1010827263, 2147483647, 4294967295, 8589934591, 17179869183, 34359738367]
theorem laws_FnShareOrder.tab16 : rtab .any (opsOf Try.f7 16) = laws_FnShareOrder.T16 := by kernel_rfl
theorem laws_FnShareOrder.bits16 : waitsOk laws_FnShareOrder.T16.2 laws_FnShareOrder.B16 = true := by kernel_rfl
set_option maxHeartbeats 8000000 in
set_option maxRecDepth 100000 in
theorem laws_FnShareOrder.calls (k : Nat) (A0 : Option Addr) (c0 : Nat) (l0 : List Int) (r : Bool) (w : World) (hr0 : Kd.C (Kd.int .u8) w A0 l0.length l0) (hc0 : l0.length ≤ c0) (h : laws_FnShareOrder.f k l0 = some r) :
 Calls Try.prog 7 #[.slice A0 l0.length c0] w fun e w' => e = .returned (.bool r) ∧ Below w.heap.size w w' := by
 have HR0 := Aside0.mk hr0
 have HC0 := Aside0.mk hc0
 clear hr0 hc0
 have HB := Aside0.mk (Below.refl w.heap.size w)
 have H : ((laws_big.f l0).bind fun t448 => (if t448 = true then (some true) else ((spec_DrawShareOrder.f k l0).bind fun bt449 => ((impl_ShareOrder.f k bt449.1 bt449.2).bind fun t453 => ((spec_ShareOrder.f k bt449.1 bt449.2).bind fun t456 => ((laws_sameInts.f k t453 t456).bind fun t459 => (if t459 = true then (if (t453.length : Int) = 0 then (some true) else (laws_FnShareOrder.l0 k bt449.1 bt449.2 t453 (([] : List Int)) (-1) 0)) else (none)))))))) = some r := h
 clear h
 replace H := Option.bind_eq_some_iff.mp H
 obtain ⟨t448, A20, H⟩ := H
 replace H : (if t448 = true then (some true) else ((spec_DrawShareOrder.f k l0).bind fun bt449 => ((impl_ShareOrder.f k bt449.1 bt449.2).bind fun t453 => ((spec_ShareOrder.f k bt449.1 bt449.2).bind fun t456 => ((laws_sameInts.f k t453 t456).bind fun t459 => (if t459 = true then (if (t453.length : Int) = 0 then (some true) else (laws_FnShareOrder.l0 k bt449.1 bt449.2 t453 (([] : List Int)) (-1) 0)) else (none))))))) = some r := H
 have A2 := Aside0.mk A20
 clear A20
 by_cases c3 : t448 = true
 ·
  subst c3
  have H1 : (some true) = some r := by rw [if_pos rfl] at H; exact H
  clear H
  have H := H1
  clear H1
  obtain rfl := Option.some.inj H
  go_enter Try.func7, Try.ntmps7
  go_wp2_with (first | ((with_reducible refine gate_callee (f := 21) rfl ?_); refine goesL_ (some 14) rfl rfl Try.func21 (by kernel_rfl) rfl #[.slice A0 l0.length c0] rfl (by (try simp only [List.map_toArray, List.map_cons, List.map_nil]); first | done | rfl | (simp only [List.length_drop, List.length_take]; rfl)) ?_; (with_reducible refine (laws_big.calls _ _ l0 true _ ?side1 ?side2 A2.out).mono ?_); (case side1 => repeat (first | exact HR0.out | (with_reducible refine Kd.C_alloc ?_ _) | (with_reducible refine Kd.C_drewN ?_ _) | (with_reducible refine Kd.C_drew ?_))); (case side2 => exact HC0.out); rintro e w' ⟨rfl, ⟨nd, rfl⟩⟩; refine ⟨_, rfl, ?_⟩))
  go_ret
  exact ⟨by first | rfl | (simp [errW_none, errW_some] <;> rfl) | (simp [*, errW_none, errW_some] <;> rfl), by repeat (first | (with_reducible first | exact HB.out | apply below_alloc | apply pw_below_drewN | apply below_drew1) | exact HB.out)⟩
 ·
  replace c3 := Bool.eq_false_iff.mpr c3
  subst c3
  have H1 : ((spec_DrawShareOrder.f k l0).bind fun bt449 => ((impl_ShareOrder.f k bt449.1 bt449.2).bind fun t453 => ((spec_ShareOrder.f k bt449.1 bt449.2).bind fun t456 => ((laws_sameInts.f k t453 t456).bind fun t459 => (if t459 = true then (if (t453.length : Int) = 0 then (some true) else (laws_FnShareOrder.l0 k bt449.1 bt449.2 t453 (([] : List Int)) (-1) 0)) else (none)))))) = some r := by rw [if_neg (show ¬ (false = true) by decide)] at H; exact H
  clear H
  have H := H1
  clear H1
  replace H := Option.bind_eq_some_iff.mp H
  obtain ⟨⟨t449, t450⟩, A40, H⟩ := H
  replace H : ((impl_ShareOrder.f k t449 t450).bind fun t453 => ((spec_ShareOrder.f k t449 t450).bind fun t456 => ((laws_sameInts.f k t453 t456).bind fun t459 => (if t459 = true then (if (t453.length : Int) = 0 then (some true) else (laws_FnShareOrder.l0 k t449 t450 t453 (([] : List Int)) (-1) 0)) else (none))))) = some r := H
  have A4 := Aside0.mk A40
  clear A40
  replace H := Option.bind_eq_some_iff.mp H
  obtain ⟨t453, A50, H⟩ := H
  replace H : ((spec_ShareOrder.f k t449 t450).bind fun t456 => ((laws_sameInts.f k t453 t456).bind fun t459 => (if t459 = true then (if (t453.length : Int) = 0 then (some true) else (laws_FnShareOrder.l0 k t449 t450 t453 (([] : List Int)) (-1) 0)) else (none)))) = some r := H
  have A5 := Aside0.mk A50
  clear A50
  replace H := Option.bind_eq_some_iff.mp H
  obtain ⟨t456, A60, H⟩ := H
  replace H : ((laws_sameInts.f k t453 t456).bind fun t459 => (if t459 = true then (if (t453.length : Int) = 0 then (some true) else (laws_FnShareOrder.l0 k t449 t450 t453 (([] : List Int)) (-1) 0)) else (none))) = some r := H
  have A6 := Aside0.mk A60
  clear A60
  replace H := Option.bind_eq_some_iff.mp H
  obtain ⟨t459, A70, H⟩ := H
  replace H : (if t459 = true then (if (t453.length : Int) = 0 then (some true) else (laws_FnShareOrder.l0 k t449 t450 t453 (([] : List Int)) (-1) 0)) else (none)) = some r := H
  have A7 := Aside0.mk A70
  clear A70
  by_cases c8 : t459 = true
  ·
   subst c8
   have H1 : (if (t453.length : Int) = 0 then (some true) else (laws_FnShareOrder.l0 k t449 t450 t453 (([] : List Int)) (-1) 0)) = some r := by rw [if_pos rfl] at H; exact H
   clear H
   have H := H1
   clear H1
   by_cases c9 : (t453.length : Int) = 0
   ·
    rw [if_pos c9] at H
    have c9b0 : ((t453.length : Int) == 0) = true := beq_iff_eq.mpr c9
    have c9b1 : ((t453.length : Int) != 0) = false := bne_eq_false_iff_eq.mpr c9
    clear c9
    obtain rfl := Option.some.inj H
    go_enter Try.func7, Try.ntmps7
    go_wp2_with (first | ((with_reducible refine gate_callee (f := 21) rfl ?_); refine goesL_ (some 14) rfl rfl Try.func21 (by kernel_rfl) rfl #[.slice A0 l0.length c0] rfl (by (try simp only [List.map_toArray, List.map_cons, List.map_nil]); first | done | rfl | (simp only [List.length_drop, List.length_take]; rfl)) ?_; (with_reducible refine (laws_big.calls _ _ l0 false _ ?side1 ?side2 A2.out).mono ?_); (case side1 => repeat (first | exact HR0.out | (with_reducible refine Kd.C_alloc ?_ _) | (with_reducible refine Kd.C_drewN ?_ _) | (with_reducible refine Kd.C_drew ?_))); (case side2 => exact HC0.out); rintro e w' ⟨rfl, ⟨nd, rfl⟩⟩; refine ⟨_, rfl, ?_⟩) | ((with_reducible refine gate_callee (f := 22) rfl ?_); refine goesL_ (some 17) rfl rfl Try.func22 (by kernel_rfl) rfl #[.slice A0 l0.length c0] rfl (by (try simp only [List.map_toArray, List.map_cons, List.map_nil]); first | done | rfl | (simp only [List.length_drop, List.length_take]; rfl)) ?_; (with_reducible refine (spec_DrawShareOrder.calls k _ _ l0 t449 t450 _ ?side1 ?side2 A4.out).mono ?_); (case side1 => repeat (first | exact HR0.out | (with_reducible refine Kd.C_alloc ?_ _) | (with_reducible refine Kd.C_drewN ?_ _) | (with_reducible refine Kd.C_drew ?_))); (case side2 => exact HC0.out); rintro e w10 ⟨v451, rfl, ho0, hb⟩; refine ⟨_, rfl, ?_⟩; have n0_ := Aside0.mk (Kd.R_lower ho0 (below_size (by repeat (first | (with_reducible first | exact HB.out | apply below_alloc | apply pw_below_drewN | apply below_drew1) | exact HB.out)))); have n1_ := Aside0.mk (below_step (by repeat (first | (with_reducible first | exact HB.out | apply below_alloc | apply pw_below_drewN | apply below_drew1) | exact HB.out)) hb); clear HB; have HO452 := n0_; have HB := n1_; clear n0_ n1_; (try clear hb); (try clear hb2); (try clear hk); (try clear hi); (try clear ho0); obtain ⟨Ao11, co11, eo11⟩ := Kd.R_slice HO452.out; subst eo11) | ((with_reducible refine gate_callee (f := 16) rfl ?_); refine goesL_ (some 22) rfl rfl Try.func16 (by kernel_rfl) rfl #[.int .i64 t449, .slice Ao11 t450.length co11] rfl (by (try simp only [List.map_toArray, List.map_cons, List.map_nil]); first | done | rfl | (simp only [List.length_drop, List.length_take]; rfl)) ?_; (with_reducible refine (impl_ShareOrder.calls k t449 _ _ t450 t453 _ ?side1 ?side2 A5.out).mono ?_); (case side1 => repeat (first | exact (Kd.R_reads' HO452.out).2.2 | (with_reducible refine Kd.C_alloc ?_ _) | (with_reducible refine Kd.C_drewN ?_ _) | (with_reducible refine Kd.C_drew ?_))); (case side2 => exact (Kd.R_reads' HO452.out).2.1); rintro e w12 ⟨v454, rfl, ho0, hb⟩; refine ⟨_, rfl, ?_⟩; have n0_ := Aside0.mk (Kd.R_elder' (by (with_reducible repeat (first | apply Kd.R_alloc | apply Kd.R_drewN | apply Kd.R_drew)); exact HO452.out) (Kd.R_base ho0) hb); have n1_ := Aside0.mk (Kd.R_lower (Kd.R_new' ho0 (Kd.R_lt (by (with_reducible repeat (first | apply Kd.R_alloc | apply Kd.R_drewN | apply Kd.R_drew)); exact HO452.out))) (below_size (by repeat (first | (with_reducible first | exact HB.out | apply below_alloc | apply pw_below_drewN | apply below_drew1) | exact HB.out)))); have n2_ := Aside0.mk (below_step (by repeat (first | (with_reducible first | exact HB.out | apply below_alloc | apply pw_below_drewN | apply below_drew1) | exact HB.out)) hb); clear HO452; clear HB; have HO452 := n0_; have HO455 := n1_; have HB := n2_; clear n0_ n1_ n2_; (try clear hb); (try clear hb2); (try clear hk); (try clear hi); (try clear ho0)) | ((with_reducible refine gate_callee (f := 15) rfl ?_); refine goesL_ (some 25) rfl rfl Try.func15 (by kernel_rfl) rfl #[.int .i64 t449, .slice Ao11 t450.length co11] rfl (by (try simp only [List.map_toArray, List.map_cons, List.map_nil]); first | done | rfl | (simp only [List.length_drop, List.length_take]; rfl)) ?_; (with_reducible refine (spec_ShareOrder.calls k t449 _ _ t450 t456 _ ?side1 ?side2 A6.out).mono ?_); (case side1 => repeat (first | exact (Kd.R_reads' HO452.out).2.2 | (with_reducible refine Kd.C_alloc ?_ _) | (with_reducible refine Kd.C_drewN ?_ _) | (with_reducible refine Kd.C_drew ?_))); (case side2 => exact (Kd.R_reads' HO452.out).2.1); rintro e w13 ⟨v457, rfl, ho0, hb⟩; refine ⟨_, rfl, ?_⟩; have n0_ := Aside0.mk (Kd.R_elder' (by (with_reducible repeat (first | apply Kd.R_alloc | apply Kd.R_drewN | apply Kd.R_drew)); exact HO452.out) (Kd.R_base ho0) hb); have n1_ := Aside0.mk (Kd.R_elder' (by (with_reducible repeat (first | apply Kd.R_alloc | apply Kd.R_drewN | apply Kd.R_drew)); exact HO455.out) (Kd.R_base ho0) hb); have n2_ := Aside0.mk (Kd.R_lower (Kd.R_new' (Kd.R_new' ho0 (Kd.R_lt (by (with_reducible repeat (first | apply Kd.R_alloc | apply Kd.R_drewN | apply Kd.R_drew)); exact HO452.out))) (Kd.R_lt (by (with_reducible repeat (first | apply Kd.R_alloc | apply Kd.R_drewN | apply Kd.R_drew)); exact HO455.out))) (below_size (by repeat (first | (with_reducible first | exact HB.out | apply below_alloc | apply pw_below_drewN | apply below_drew1) | exact HB.out)))); have n3_ := Aside0.mk (below_step (by repeat (first | (with_reducible first | exact HB.out | apply below_alloc | apply pw_below_drewN | apply below_drew1) | exact HB.out)) hb); clear HO452; clear HO455; clear HB; have HO452 := n0_; have HO455 := n1_; have HO458 := n2_; have HB := n3_; clear n0_ n1_ n2_ n3_; (try clear hb); (try clear hb2); (try clear hk); (try clear hi); (try clear ho0); obtain ⟨Ao14, co14, eo14⟩ := Kd.R_slice HO455.out; subst eo14; obtain ⟨Ao15, co15, eo15⟩ := Kd.R_slice HO458.out; subst eo15) | ((with_reducible refine gate_callee (f := 23) rfl ?_); refine goesL_ (some 28) rfl rfl Try.func23 (by kernel_rfl) rfl #[.slice Ao14 t453.length co14, .slice Ao15 t456.length co15] rfl (by (try simp only [List.map_toArray, List.map_cons, List.map_nil]); first | done | rfl | (simp only [List.length_drop, List.length_take]; rfl)) ?_; (with_reducible refine (laws_sameInts.calls k _ _ t453 _ _ t456 true _ ?side1 ?side2 ?side3 ?side4 A7.out).mono ?_); (case side1 => repeat (first | exact (Kd.R_reads' HO455.out).2.2 | (with_reducible refine Kd.C_alloc ?_ _) | (with_reducible refine Kd.C_drewN ?_ _) | (with_reducible refine Kd.C_drew ?_))); (case side2 => exact (Kd.R_reads' HO455.out).2.1); (case side3 => repeat (first | exact (Kd.R_reads' HO458.out).2.2 | (with_reducible refine Kd.C_alloc ?_ _) | (with_reducible refine Kd.C_drewN ?_ _) | (with_reducible refine Kd.C_drew ?_))); (case side4 => exact (Kd.R_reads' HO458.out).2.1); rintro e w' ⟨rfl, ⟨nd, rfl⟩⟩; refine ⟨_, rfl, ?_⟩))
    go_ret
    exact ⟨by first | rfl | (simp [errW_none, errW_some] <;> rfl) | (simp [*, errW_none, errW_some] <;> rfl), by repeat (first | (with_reducible first | exact HB.out | apply below_alloc | apply pw_below_drewN | apply below_drew1) | exact HB.out)⟩
   ·
    rw [if_neg c9] at H
    have c9b0 : ((t453.length : Int) == 0) = false := beq_eq_false_iff_ne.mpr c9
    have c9b1 : ((t453.length : Int) != 0) = true := bne_iff_ne.mpr c9
    have c9b2 : ¬ (t453 = []) := fun h_ => c9 (by rw [h_]; rfl)
    obtain ⟨y460, hy460⟩ : ∃ y_ : List Int, y_ = (([] : List Int)) := ⟨_, rfl⟩
    replace H : (laws_FnShareOrder.l0 k t449 t450 t453 y460 (-1) 0) = some r := by first | (rw [hy460]; with_reducible exact H) | (have H2_ := (Option.bind_some _ _).symm.trans H; rw [hy460]; with_reducible exact H2_) | (have H2_ := (Option.bind_some _ _).symm.trans H; with_reducible exact H2_) | with_reducible exact H | (rw [hy460]; exact H) | exact H
    have Ny460 := Aside0.mk hy460
    clear hy460
    have H' := Aside0.mk H
    clear H
    go_enter Try.func7, Try.ntmps7
    go_wp2_with (first | ((with_reducible refine gate_callee (f := 21) rfl ?_); refine goesL_ (some 14) rfl rfl Try.func21 (by kernel_rfl) rfl #[.slice A0 l0.length c0] rfl (by (try simp only [List.map_toArray, List.map_cons, List.map_nil]); first | done | rfl | (simp only [List.length_drop, List.length_take]; rfl)) ?_; (with_reducible refine (laws_big.calls _ _ l0 false _ ?side1 ?side2 A2.out).mono ?_); (case side1 => repeat (first | exact HR0.out | (with_reducible refine Kd.C_alloc ?_ _) | (with_reducible refine Kd.C_drewN ?_ _) | (with_reducible refine Kd.C_drew ?_))); (case side2 => exact HC0.out); rintro e w' ⟨rfl, ⟨nd, rfl⟩⟩; refine ⟨_, rfl, ?_⟩) | ((with_reducible refine gate_callee (f := 22) rfl ?_); refine goesL_ (some 17) rfl rfl Try.func22 (by kernel_rfl) rfl #[.slice A0 l0.length c0] rfl (by (try simp only [List.map_toArray, List.map_cons, List.map_nil]); first | done | rfl | (simp only [List.length_drop, List.length_take]; rfl)) ?_; (with_reducible refine (spec_DrawShareOrder.calls k _ _ l0 t449 t450 _ ?side1 ?side2 A4.out).mono ?_); (case side1 => repeat (first | exact HR0.out | (with_reducible refine Kd.C_alloc ?_ _) | (with_reducible refine Kd.C_drewN ?_ _) | (with_reducible refine Kd.C_drew ?_))); (case side2 => exact HC0.out); rintro e w16 ⟨v451, rfl, ho0, hb⟩; refine ⟨_, rfl, ?_⟩; have n0_ := Aside0.mk (Kd.R_lower ho0 (below_size (by repeat (first | (with_reducible first | exact HB.out | apply below_alloc | apply pw_below_drewN | apply below_drew1) | exact HB.out)))); have n1_ := Aside0.mk (below_step (by repeat (first | (with_reducible first | exact HB.out | apply below_alloc | apply pw_below_drewN | apply below_drew1) | exact HB.out)) hb); clear HB; have HO452 := n0_; have HB := n1_; clear n0_ n1_; (try clear hb); (try clear hb2); (try clear hk); (try clear hi); (try clear ho0); obtain ⟨Ao17, co17, eo17⟩ := Kd.R_slice HO452.out; subst eo17) | ((with_reducible refine gate_callee (f := 16) rfl ?_); refine goesL_ (some 22) rfl rfl Try.func16 (by kernel_rfl) rfl #[.int .i64 t449, .slice Ao17 t450.length co17] rfl (by (try simp only [List.map_toArray, List.map_cons, List.map_nil]); first | done | rfl | (simp only [List.length_drop, List.length_take]; rfl)) ?_; (with_reducible refine (impl_ShareOrder.calls k t449 _ _ t450 t453 _ ?side1 ?side2 A5.out).mono ?_); (case side1 => repeat (first | exact (Kd.R_reads' HO452.out).2.2 | (with_reducible refine Kd.C_alloc ?_ _) | (with_reducible refine Kd.C_drewN ?_ _) | (with_reducible refine Kd.C_drew ?_))); (case side2 => exact (Kd.R_reads' HO452.out).2.1); rintro e w18 ⟨v454, rfl, ho0, hb⟩; refine ⟨_, rfl, ?_⟩; have n0_ := Aside0.mk (Kd.R_elder' (by (with_reducible repeat (first | apply Kd.R_alloc | apply Kd.R_drewN | apply Kd.R_drew)); exact HO452.out) (Kd.R_base ho0) hb); have n1_ := Aside0.mk (Kd.R_lower (Kd.R_new' ho0 (Kd.R_lt (by (with_reducible repeat (first | apply Kd.R_alloc | apply Kd.R_drewN | apply Kd.R_drew)); exact HO452.out))) (below_size (by repeat (first | (with_reducible first | exact HB.out | apply below_alloc | apply pw_below_drewN | apply below_drew1) | exact HB.out)))); have n2_ := Aside0.mk (below_step (by repeat (first | (with_reducible first | exact HB.out | apply below_alloc | apply pw_below_drewN | apply below_drew1) | exact HB.out)) hb); clear HO452; clear HB; have HO452 := n0_; have HO455 := n1_; have HB := n2_; clear n0_ n1_ n2_; (try clear hb); (try clear hb2); (try clear hk); (try clear hi); (try clear ho0)) | ((with_reducible refine gate_callee (f := 15) rfl ?_); refine goesL_ (some 25) rfl rfl Try.func15 (by kernel_rfl) rfl #[.int .i64 t449, .slice Ao17 t450.length co17] rfl (by (try simp only [List.map_toArray, List.map_cons, List.map_nil]); first | done | rfl | (simp only [List.length_drop, List.length_take]; rfl)) ?_; (with_reducible refine (spec_ShareOrder.calls k t449 _ _ t450 t456 _ ?side1 ?side2 A6.out).mono ?_); (case side1 => repeat (first | exact (Kd.R_reads' HO452.out).2.2 | (with_reducible refine Kd.C_alloc ?_ _) | (with_reducible refine Kd.C_drewN ?_ _) | (with_reducible refine Kd.C_drew ?_))); (case side2 => exact (Kd.R_reads' HO452.out).2.1); rintro e w19 ⟨v457, rfl, ho0, hb⟩; refine ⟨_, rfl, ?_⟩; have n0_ := Aside0.mk (Kd.R_elder' (by (with_reducible repeat (first | apply Kd.R_alloc | apply Kd.R_drewN | apply Kd.R_drew)); exact HO452.out) (Kd.R_base ho0) hb); have n1_ := Aside0.mk (Kd.R_elder' (by (with_reducible repeat (first | apply Kd.R_alloc | apply Kd.R_drewN | apply Kd.R_drew)); exact HO455.out) (Kd.R_base ho0) hb); have n2_ := Aside0.mk (Kd.R_lower (Kd.R_new' (Kd.R_new' ho0 (Kd.R_lt (by (with_reducible repeat (first | apply Kd.R_alloc | apply Kd.R_drewN | apply Kd.R_drew)); exact HO452.out))) (Kd.R_lt (by (with_reducible repeat (first | apply Kd.R_alloc | apply Kd.R_drewN | apply Kd.R_drew)); exact HO455.out))) (below_size (by repeat (first | (with_reducible first | exact HB.out | apply below_alloc | apply pw_below_drewN | apply below_drew1) | exact HB.out)))); have n3_ := Aside0.mk (below_step (by repeat (first | (with_reducible first | exact HB.out | apply below_alloc | apply pw_below_drewN | apply below_drew1) | exact HB.out)) hb); clear HO452; clear HO455; clear HB; have HO452 := n0_; have HO455 := n1_; have HO458 := n2_; have HB := n3_; clear n0_ n1_ n2_ n3_; (try clear hb); (try clear hb2); (try clear hk); (try clear hi); (try clear ho0); obtain ⟨Ao20, co20, eo20⟩ := Kd.R_slice HO455.out; subst eo20; obtain ⟨Ao21, co21, eo21⟩ := Kd.R_slice HO458.out; subst eo21) | ((with_reducible refine gate_callee (f := 23) rfl ?_); refine goesL_ (some 28) rfl rfl Try.func23 (by kernel_rfl) rfl #[.slice Ao20 t453.length co20, .slice Ao21 t456.length co21] rfl (by (try simp only [List.map_toArray, List.map_cons, List.map_nil]); first | done | rfl | (simp only [List.length_drop, List.length_take]; rfl)) ?_; (with_reducible refine (laws_sameInts.calls k _ _ t453 _ _ t456 true _ ?side1 ?side2 ?side3 ?side4 A7.out).mono ?_); (case side1 => repeat (first | exact (Kd.R_reads' HO455.out).2.2 | (with_reducible refine Kd.C_alloc ?_ _) | (with_reducible refine Kd.C_drewN ?_ _) | (with_reducible refine Kd.C_drew ?_))); (case side2 => exact (Kd.R_reads' HO455.out).2.1); (case side3 => repeat (first | exact (Kd.R_reads' HO458.out).2.2 | (with_reducible refine Kd.C_alloc ?_ _) | (with_reducible refine Kd.C_drewN ?_ _) | (with_reducible refine Kd.C_drew ?_))); (case side4 => exact (Kd.R_reads' HO458.out).2.1); rintro e w' ⟨rfl, ⟨nd, rfl⟩⟩; refine ⟨_, rfl, ?_⟩) | ((with_reducible refine gate_dst (N := 33) rfl ?_); refine Kd.R_lit (Kd.int .i64) _ 3 ?hg (N := 33) ?hd (xs := ([] : List Int)) (inner := []) (ok := fun _ => True) (okp := fun _ => True) ?hr ?hp (fun _ hk => hk) trivial (Below.refl _ _) (Nat.le_refl _) (by simp) ?_; (case hd => rfl); (case hg => rfl); (case hr => first | (go_simp; done) | (go_simp; rfl)); (case hp => exact (Reps.none _ _)); intro v461 w22 ho23 hb hg_ hnew_; clear hg_ hnew_; (first | rw [← Ny460.out] at ho23 | (simp only [Int.reduceToNat] at ho23; rw [← Ny460.out] at ho23)); have n0_ := Aside0.mk (Kd.R_elder' (by (with_reducible repeat (first | apply Kd.R_alloc | apply Kd.R_drewN | apply Kd.R_drew)); exact HO452.out) (Kd.R_base ho23) hb); have n1_ := Aside0.mk (Kd.R_elder' (by (with_reducible repeat (first | apply Kd.R_alloc | apply Kd.R_drewN | apply Kd.R_drew)); exact HO455.out) (Kd.R_base ho23) hb); have n2_ := Aside0.mk (Kd.R_elder' (by (with_reducible repeat (first | apply Kd.R_alloc | apply Kd.R_drewN | apply Kd.R_drew)); exact HO458.out) (Kd.R_base ho23) hb); have n3_ := Aside0.mk (Kd.R_lower (Kd.R_new' (Kd.R_new' (Kd.R_new' ho23 (Kd.R_lt (by (with_reducible repeat (first | apply Kd.R_alloc | apply Kd.R_drewN | apply Kd.R_drew)); exact HO452.out))) (Kd.R_lt (by (with_reducible repeat (first | apply Kd.R_alloc | apply Kd.R_drewN | apply Kd.R_drew)); exact HO455.out))) (Kd.R_lt (by (with_reducible repeat (first | apply Kd.R_alloc | apply Kd.R_drewN | apply Kd.R_drew)); exact HO458.out))) (below_size (by repeat (first | (with_reducible first | exact HB.out | apply below_alloc | apply pw_below_drewN | apply below_drew1) | exact HB.out)))); have n4_ := Aside0.mk (below_step (by repeat (first | (with_reducible first | exact HB.out | apply below_alloc | apply pw_below_drewN | apply below_drew1) | exact HB.out)) hb); clear HO452; clear HO455; clear HO458; clear HB; have HO452 := n0_; have HO455 := n1_; have HO458 := n2_; have HO462 := n3_; have HB := n4_; clear n0_ n1_ n2_ n3_ n4_; clear hb ho23))
    go_loopg [7, 8, 9] k (fun kq v7 v8 v9 w' => ∃ (x7_1 : List Int) (x8_1 : Int) (x9_1 : Int), v8 = .int .i64 x8_1 ∧ v9 = .int .i64 x9_1 ∧ Aside0 (laws_FnShareOrder.l0 kq t449 t450 t453 x7_1 x8_1 x9_1 = some r) ∧ Aside0 (kq ≤ k) ∧ Aside0 (Kd.R (Kd.int .i64) 3 w' w.heap.size (fun k_ => some k_ ≠ ((.slice Ao20 t453.length co20) : Value).ownBlock ∧ some k_ ≠ (v7 : Value).ownBlock) (.slice Ao17 t450.length co17) t450) ∧ Aside0 (Kd.R (Kd.int .i64) 3 w' w.heap.size (fun k_ => some k_ ≠ ((.slice Ao17 t450.length co17) : Value).ownBlock ∧ some k_ ≠ (v7 : Value).ownBlock) (.slice Ao20 t453.length co20) t453) ∧ Aside0 (Kd.R (Kd.int .i64) 3 w' w.heap.size (fun k_ => some k_ ≠ ((.slice Ao17 t450.length co17) : Value).ownBlock ∧ some k_ ≠ ((.slice Ao20 t453.length co20) : Value).ownBlock) v7 x7_1) ∧ Aside0 (Below w.heap.size w w'))
    case atStart => exact ⟨(y460), ((-1)), (0), (by first | rfl | (simp; done) | (simp [*]; done)), (by first | rfl | (simp; done) | (simp [*]; done)), H', ⟨Nat.le_refl _⟩, ⟨by (with_reducible repeat (first | apply Kd.R_alloc | apply Kd.R_drewN | apply Kd.R_drew)); exact Kd.R_mono HO452.out (fun _ hk => ⟨hk.1.1.2, hk.2⟩)⟩, ⟨by (with_reducible repeat (first | apply Kd.R_alloc | apply Kd.R_drewN | apply Kd.R_drew)); exact Kd.R_mono HO455.out (fun _ hk => ⟨hk.1.1.2, hk.2⟩)⟩, ⟨by (with_reducible repeat (first | apply Kd.R_alloc | apply Kd.R_drewN | apply Kd.R_drew)); exact Kd.R_mono HO462.out (fun _ hk => ⟨hk.1.1.2, hk.1.2⟩)⟩, ⟨by repeat (first | (with_reducible first | exact HB.out | apply below_alloc | apply pw_below_drewN | apply below_drew1) | exact HB.out)⟩⟩
    case round =>
     clear H'
     try clear c1
     try clear c2
     try clear p2
     try clear c3
     try clear c7
     try clear c8
     try clear c9
     try clear c9b0
     try clear c9b1
     try clear c9b2
     try clear c15
     try clear c16
     try clear c21
     try clear c22
     try clear c23
     obtain ⟨x7_1, x8_1, x9_1, rfl, rfl, HA, HK1, HO_4, HO_5, HO_7, HB⟩ := hrel
     cases gk with
     | zero => exact absurd HA.out (by simp [laws_FnShareOrder.l0])
     | succ k1 =>
      have H := HA.out
      clear HA
      simp only [laws_FnShareOrder.l0] at H
      by_cases c24 : x9_1 < (t453.length : Int)
      ·
       rw [if_pos c24] at H
       have c24b0 : decide (x9_1 < (t453.length : Int)) = true := decide_eq_true c24
       clear c24
       by_cases c25 : 0 ≤ x9_1
       ·
        rw [if_pos c25] at H
        have c25b0 : decide (0 ≤ x9_1) = true := decide_eq_true c25
        clear c25
        replace H := Option.bind_eq_some_iff.mp H
        obtain ⟨⟨t464, t465, t466⟩, A260, H⟩ := H
        replace H : (if t466 = true then ((laws_within.f k1 x7_1 (rd t453 x9_1)).bind fun t468 => (if t468 = true then (none) else (if x9_1 > 0 then (if t465 > x8_1 then (none) else (if t465 = x8_1 then (if 0 ≤ (wrap64 (x9_1 - 1)) then (if (wrap64 (x9_1 - 1)) < (t453.length : Int) then (if (rd t453 x9_1) < (rd t453 (wrap64 (x9_1 - 1))) then (none) else (if x7_1.length < 17592186044416 then (laws_FnShareOrder.l0 k1 t449 t450 t453 (x7_1 ++ [rd t453 x9_1]) t465 (wrap64 (x9_1 + 1))) else (none))) else (none)) else (none)) else (if x7_1.length < 17592186044416 then (laws_FnShareOrder.l0 k1 t449 t450 t453 (x7_1 ++ [rd t453 x9_1]) t465 (wrap64 (x9_1 + 1))) else (none)))) else (if x7_1.length < 17592186044416 then (laws_FnShareOrder.l0 k1 t449 t450 t453 (x7_1 ++ [rd t453 x9_1]) t465 (wrap64 (x9_1 + 1))) else (none))))) else (none)) = some r := H
        have A26 := Aside0.mk A260
        clear A260
        by_cases c27 : t466 = true
        ·
         subst c27
         have H1 : ((laws_within.f k1 x7_1 (rd t453 x9_1)).bind fun t468 => (if t468 = true then (none) else (if x9_1 > 0 then (if t465 > x8_1 then (none) else (if t465 = x8_1 then (if 0 ≤ (wrap64 (x9_1 - 1)) then (if (wrap64 (x9_1 - 1)) < (t453.length : Int) then (if (rd t453 x9_1) < (rd t453 (wrap64 (x9_1 - 1))) then (none) else (if x7_1.length < 17592186044416 then (laws_FnShareOrder.l0 k1 t449 t450 t453 (x7_1 ++ [rd t453 x9_1]) t465 (wrap64 (x9_1 + 1))) else (none))) else (none)) else (none)) else (if x7_1.length < 17592186044416 then (laws_FnShareOrder.l0 k1 t449 t450 t453 (x7_1 ++ [rd t453 x9_1]) t465 (wrap64 (x9_1 + 1))) else (none)))) else (if x7_1.length < 17592186044416 then (laws_FnShareOrder.l0 k1 t449 t450 t453 (x7_1 ++ [rd t453 x9_1]) t465 (wrap64 (x9_1 + 1))) else (none))))) = some r := by rw [if_pos rfl] at H; exact H
         clear H
         have H := H1
         clear H1
         replace H := Option.bind_eq_some_iff.mp H
         obtain ⟨t468, A280, H⟩ := H
         replace H : (if t468 = true then (none) else (if x9_1 > 0 then (if t465 > x8_1 then (none) else (if t465 = x8_1 then (if 0 ≤ (wrap64 (x9_1 - 1)) then (if (wrap64 (x9_1 - 1)) < (t453.length : Int) then (if (rd t453 x9_1) < (rd t453 (wrap64 (x9_1 - 1))) then (none) else (if x7_1.length < 17592186044416 then (laws_FnShareOrder.l0 k1 t449 t450 t453 (x7_1 ++ [rd t453 x9_1]) t465 (wrap64 (x9_1 + 1))) else (none))) else (none)) else (none)) else (if x7_1.length < 17592186044416 then (laws_FnShareOrder.l0 k1 t449 t450 t453 (x7_1 ++ [rd t453 x9_1]) t465 (wrap64 (x9_1 + 1))) else (none)))) else (if x7_1.length < 17592186044416 then (laws_FnShareOrder.l0 k1 t449 t450 t453 (x7_1 ++ [rd t453 x9_1]) t465 (wrap64 (x9_1 + 1))) else (none)))) = some r := H
         have A28 := Aside0.mk A280
         clear A280
         by_cases c29 : t468 = true
         ·
          subst c29
          have H1 : (none) = some r := by rw [if_pos rfl] at H; exact H
          clear H
          have H := H1
          clear H1
          exact absurd H (by simp)
         ·
          replace c29 := Bool.eq_false_iff.mpr c29
          subst c29
          have H1 : (if x9_1 > 0 then (if t465 > x8_1 then (none) else (if t465 = x8_1 then (if 0 ≤ (wrap64 (x9_1 - 1)) then (if (wrap64 (x9_1 - 1)) < (t453.length : Int) then (if (rd t453 x9_1) < (rd t453 (wrap64 (x9_1 - 1))) then (none) else (if x7_1.length < 17592186044416 then (laws_FnShareOrder.l0 k1 t449 t450 t453 (x7_1 ++ [rd t453 x9_1]) t465 (wrap64 (x9_1 + 1))) else (none))) else (none)) else (none)) else (if x7_1.length < 17592186044416 then (laws_FnShareOrder.l0 k1 t449 t450 t453 (x7_1 ++ [rd t453 x9_1]) t465 (wrap64 (x9_1 + 1))) else (none)))) else (if x7_1.length < 17592186044416 then (laws_FnShareOrder.l0 k1 t449 t450 t453 (x7_1 ++ [rd t453 x9_1]) t465 (wrap64 (x9_1 + 1))) else (none))) = some r := by rw [if_neg (show ¬ (false = true) by decide)] at H; exact H
          clear H
          have H := H1
          clear H1
          by_cases c30 : x9_1 > 0
          ·
           rw [if_pos c30] at H
           have c30b0 : decide (0 < x9_1) = true := decide_eq_true c30
           clear c30
           by_cases c31 : t465 > x8_1
           ·
            rw [if_pos c31] at H
            have c31b0 : decide (x8_1 < t465) = true := decide_eq_true c31
            clear c31
            exact absurd H (by simp)
           ·
            rw [if_neg c31] at H
            have c31b0 : decide (x8_1 < t465) = false := decide_eq_false c31
            clear c31
            by_cases c32 : t465 = x8_1
            ·
             rw [if_pos c32] at H
             have c32b0 : (t465 == x8_1) = true := beq_iff_eq.mpr c32
             have c32b1 : (t465 != x8_1) = false := bne_eq_false_iff_eq.mpr c32
             clear c32
             obtain ⟨ji33, hji33⟩ : ∃ j_ : Int, (wrap64 (x9_1 - 1)) = j_ := ⟨_, rfl⟩
             replace H : (if 0 ≤ (ji33) then (if (ji33) < (t453.length : Int) then (if (rd t453 x9_1) < (rd t453 (ji33)) then (none) else (if x7_1.length < 17592186044416 then (laws_FnShareOrder.l0 k1 t449 t450 t453 (x7_1 ++ [rd t453 x9_1]) t465 (wrap64 (x9_1 + 1))) else (none))) else (none)) else (none)) = some r := by first | (rw [hji33] at H; exact H) | (simp only [hji33] at H ⊢; exact H)
             (try rw [hji33] at A26)
             (try rw [hji33] at A28)
             have hji33w : (IntKind.i64.wrap (x9_1 - 1)) = ji33 := (i64_w _).trans hji33
             by_cases c34 : 0 ≤ (ji33)
             ·
              rw [if_pos c34] at H
              have c34b0 : decide (0 ≤ (ji33)) = true := decide_eq_true c34
              clear c34
              by_cases c35 : (ji33) < (t453.length : Int)
              ·
               rw [if_pos c35] at H
               have c35b0 : decide ((ji33) < (t453.length : Int)) = true := decide_eq_true c35
               clear c35
               by_cases c36 : (rd t453 x9_1) < (rd t453 (ji33))
               ·
                rw [if_pos c36] at H
                exact absurd H (by simp)
               ·
                rw [if_neg c36] at H
                have c36b0 : decide ((rd t453 x9_1) < (rd t453 (ji33))) = false := decide_eq_false c36
                clear c36
                by_cases c37 : x7_1.length < 17592186044416
                ·
                 rw [if_pos c37] at H
                 have LMc37 := Aside0.mk c37
                 clear c37
                 obtain ⟨y472, hy472⟩ : ∃ y_ : List Int, y_ = (x7_1 ++ [rd t453 x9_1]) := ⟨_, rfl⟩
                 replace H : (laws_FnShareOrder.l0 k1 t449 t450 t453 y472 t465 (wrap64 (x9_1 + 1))) = some r := by first | (rw [hy472]; with_reducible exact H) | (have H2_ := (Option.bind_some _ _).symm.trans H; rw [hy472]; with_reducible exact H2_) | (have H2_ := (Option.bind_some _ _).symm.trans H; with_reducible exact H2_) | with_reducible exact H | (rw [hy472]; exact H) | exact H
                 have Ny472 := Aside0.mk hy472
                 clear hy472
                 have H' := Aside0.mk H
                 clear H
                 have p463 : 0 ≤ (x9_1 : Int) := of_decide_eq_true (by first | (with_reducible assumption) | assumption)
                 have q463 : x9_1 < (t453.length : Int) := of_decide_eq_true (by first | (with_reducible assumption) | assumption)
                 obtain ⟨ad463, e463, hx463_0⟩ := Kd.at_int (Kd.R_reads' HO_5.out).2.2 x9_1 p463 q463
                 cases e463
                 replace p463 := eq_true p463
                 replace q463 := eq_true q463
                 try go_wp2_with (first | ((with_reducible refine gate_callee (f := 14) rfl ?_); refine goesL_ (some 47) rfl rfl Try.func14 (by kernel_rfl) rfl #[.int .i64 t449, .slice Ao17 t450.length co17, .int .i64 (rd t453 x9_1)] rfl (by (try simp only [List.map_toArray, List.map_cons, List.map_nil]); first | done | rfl | (simp only [List.length_drop, List.length_take]; rfl)) ?_; (with_reducible refine (impl_ShareQuota.calls k1 t449 _ _ t450 (rd t453 x9_1) t464 t465 true _ ?side1 ?side2 A26.out).mono ?_); (case side1 => repeat (first | exact (Kd.R_reads' HO_4.out).2.2 | (with_reducible refine Kd.C_alloc ?_ _) | (with_reducible refine Kd.C_drewN ?_ _) | (with_reducible refine Kd.C_drew ?_))); (case side2 => exact (Kd.R_reads' HO_4.out).2.1); rintro e w38 ⟨rfl, hb⟩; refine ⟨_, rfl, ?_⟩; have n0_ := Aside0.mk (Kd.R_below (by (with_reducible repeat (first | apply Kd.R_alloc | apply Kd.R_drewN | apply Kd.R_drew)); exact HO_4.out) hb); have n1_ := Aside0.mk (Kd.R_below (by (with_reducible repeat (first | apply Kd.R_alloc | apply Kd.R_drewN | apply Kd.R_drew)); exact HO_5.out) hb); have n2_ := Aside0.mk (Kd.R_below (by (with_reducible repeat (first | apply Kd.R_alloc | apply Kd.R_drewN | apply Kd.R_drew)); exact HO_7.out) hb); have n3_ := Aside0.mk (below_step (by repeat (first | (with_reducible first | exact HB.out | apply below_alloc | apply pw_below_drewN | apply below_drew1) | exact HB.out)) hb); clear HO_4; clear HO_5; clear HO_7; clear HB; have HO_4 := n0_; have HO_5 := n1_; have HO_7 := n2_; have HB := n3_; clear n0_ n1_ n2_ n3_; (try clear hb); (try clear hb2); (try clear hk); (try clear hi)))
                 have n0_ := Aside0.mk (Kd.R_drew HO_4.out)
                 have n1_ := Aside0.mk (Kd.R_drew HO_5.out)
                 have n2_ := Aside0.mk (Kd.R_drew HO_7.out)
                 have n3_ := Aside0.mk (below_drew1 HB.out)
                 clear HO_4
                 clear HO_5
                 clear HO_7
                 clear HB
                 have HO_4 := n0_
                 have HO_5 := n1_
                 have HO_7 := n2_
                 have HB := n3_
                 clear n0_ n1_ n2_ n3_
                 have p467 : 0 ≤ (x9_1 : Int) := of_decide_eq_true (by first | (with_reducible assumption) | assumption)
                 have q467 : x9_1 < (t453.length : Int) := of_decide_eq_true (by first | (with_reducible assumption) | assumption)
                 obtain ⟨ad467, e467, hx467_0⟩ := Kd.at_int (Kd.R_reads' HO_5.out).2.2 x9_1 p467 q467
                 obtain rfl : ad463 = ad467 := (by injection e467)
                 replace p467 := eq_true p467
                 replace q467 := eq_true q467
                 obtain ⟨Ao40, co40, eo40⟩ := Kd.R_slice HO_7.out
                 (first | subst eo40 | (injection eo40 with f1_ f2_ f3_; have f4_ := f1_.symm; have f5_ := f3_.symm; clear f1_ f2_ f3_; subst f4_; subst f5_))
                 have p469 : 0 ≤ (x9_1 : Int) := of_decide_eq_true (by first | (with_reducible assumption) | assumption)
                 have q469 : x9_1 < (t453.length : Int) := of_decide_eq_true (by first | (with_reducible assumption) | assumption)
                 obtain ⟨ad469, e469, hx469_0⟩ := Kd.at_int (Kd.R_reads' HO_5.out).2.2 x9_1 p469 q469
                 obtain rfl : ad463 = ad469 := (by injection e469)
                 replace p469 := eq_true p469
                 replace q469 := eq_true q469
                 have p470 : 0 ≤ ((ji33) : Int) := of_decide_eq_true (by first | (with_reducible assumption) | assumption)
                 have q470 : (ji33) < (t453.length : Int) := of_decide_eq_true (by first | (with_reducible assumption) | assumption)
                 obtain ⟨ad470, e470, hx470_0⟩ := Kd.at_int (Kd.R_reads' HO_5.out).2.2 (ji33) p470 q470
                 obtain rfl : ad463 = ad470 := (by injection e470)
                 replace p470 := eq_true p470
                 replace q470 := eq_true q470
                 refine start_ (n := 36) (S := fun w' => w'.cell? (ad463.add (x9_1).toNat) = some (.int .i64 (rd t453 x9_1)) ∧ w'.cell? (ad463.add (x9_1).toNat) = some (.int .i64 (rd t453 x9_1)) ∧ w'.cell? (ad463.add ((ji33)).toNat) = some (.int .i64 (rd t453 (ji33)))) (ds := []) #[false, false, false, false, false, false, false, false, false, false, false, false, false, false, false, false, false, false, false, false, false, false, false, false, false, false, false, false, false, false, false, false, false, false, false, false] (by kernel_rfl) rfl rfl ⟨hx467_0, hx469_0, hx470_0⟩ (fun hHeld => ?_); refine with_tabW laws_FnShareOrder.tab16 laws_FnShareOrder.bits16 (fun HT_ HW_ => ?_)
                 generalize w38.drew = w39 at HO_4 HO_5 HO_7 HB hx467_0 hx469_0 hx470_0 hHeld ⊢
                 refine pure_ (i := 0) (N := some 51) (v := ?_) (a' := ?_) #[true, false, false, false, false, false, false, false, false, false, false, false, false, false, false, false, false, false, false, false, false, false, false, false, false, false, false, false, false, false, false, false, false, false, false, false] rfl rfl (any_of HT_.out (by kernel_rfl)) (fun _ _ _ h => h) (Or.inl ⟨by rfl, ?_⟩) ?_ ?_
                 rotate_left
                 ·
                  intro w'
                  go_simp
                  with_reducible rfl
                 rotate_left
                 ·
                  simp only [Act.put, List.setIfInBounds_toArray, List.set_cons_zero, List.set_cons_succ, i64_w, i32_w]
                  rfl
                 refine pure_ (i := 1) (N := some 52) (v := ?_) (a' := ?_) #[true, true, false, false, false, false, false, false, false, false, false, false, false, false, false, false, false, false, false, false, false, false, false, false, false, false, false, false, false, false, false, false, false, false, false, false] rfl rfl (any_of HT_.out (by kernel_rfl)) (fun _ _ _ h => h) (Or.inl ⟨by rfl, ?_⟩) ?_ ?_
                 rotate_left
                 ·
                  intro w'
                  go_simp
                  with_reducible rfl
                 rotate_left
                 ·
                  simp only [Act.put, List.setIfInBounds_toArray, List.set_cons_zero, List.set_cons_succ, i64_w, i32_w]
                  rfl
                 refine pure_ (i := 2) (N := some 53) (v := ?_) (a' := ?_) #[true, true, true, false, false, false, false, false, false, false, false, false, false, false, false, false, false, false, false, false, false, false, false, false, false, false, false, false, false, false, false, false, false, false, false, false] rfl rfl (any_of HT_.out (by kernel_rfl)) (fun _ _ _ h => h) (Or.inl ⟨by rfl, ?_⟩) ?_ ?_
                 rotate_left
                 ·
                  intro w'
                  go_simp
                  with_reducible rfl
                 rotate_left
                 ·
                  simp only [Act.put, List.setIfInBounds_toArray, List.set_cons_zero, List.set_cons_succ, i64_w, i32_w]
                  rfl
                 refine pure_ (i := 3) (N := some 54) (v := ?_) (a' := ?_) #[true, true, true, true, false, false, false, false, false, false, false, false, false, false, false, false, false, false, false, false, false, false, false, false, false, false, false, false, false, false, false, false, false, false, false, false] rfl rfl (any_of HT_.out (by kernel_rfl)) (fun _ _ _ h => h) (Or.inl ⟨by rfl, ?_⟩) ?_ ?_
                 rotate_left
                 ·
                  intro w'
                  go_simp
                  with_reducible rfl
                 rotate_left
                 ·
                  simp only [Act.put, List.setIfInBounds_toArray, List.set_cons_zero, List.set_cons_succ, i64_w, i32_w]
                  rfl
                 refine pure_ (i := 4) (N := some 55) (v := ?_) (a' := ?_) #[true, true, true, true, true, false, false, false, false, false, false, false, false, false, false, false, false, false, false, false, false, false, false, false, false, false, false, false, false, false, false, false, false, false, false, false] rfl rfl (any_of HT_.out (by kernel_rfl)) (fun _ _ _ h => h) (Or.inl ⟨by rfl, ?_⟩) ?_ ?_
                 rotate_left
                 ·
                  intro w'
                  go_simp
                  with_reducible rfl
                 rotate_left
                 ·
                  simp only [Act.put, List.setIfInBounds_toArray, List.set_cons_zero, List.set_cons_succ, i64_w, i32_w]
                  rfl
                 refine pure_ (i := 5) (N := some 56) (v := ?_) (a' := ?_) #[true, true, true, true, true, true, false, false, false, false, false, false, false, false, false, false, false, false, false, false, false, false, false, false, false, false, false, false, false, false, false, false, false, false, false, false] rfl rfl (any_of HT_.out (by kernel_rfl)) (fun _ _ _ h => h) (Or.inl ⟨by rfl, ?_⟩) ?_ ?_
                 rotate_left
                 ·
                  intro w'
                  go_simp
                  with_reducible rfl
                 rotate_left
                 ·
                  simp only [Act.put, List.setIfInBounds_toArray, List.set_cons_zero, List.set_cons_succ, i64_w, i32_w]
                  rfl
                 refine pure_ (i := 6) (N := some 57) (v := ?_) (a' := ?_) #[true, true, true, true, true, true, true, false, false, false, false, false, false, false, false, false, false, false, false, false, false, false, false, false, false, false, false, false, false, false, false, false, false, false, false, false] rfl rfl (any_of HT_.out (by kernel_rfl)) (fun _ _ _ h => h) (Or.inl ⟨by rfl, ?_⟩) ?_ ?_
                 rotate_left
                 ·
                  intro w'
                  go_simp
                  with_reducible rfl
                 rotate_left
                 ·
                  simp only [Act.put, List.setIfInBounds_toArray, List.set_cons_zero, List.set_cons_succ, i64_w, i32_w]
                  rfl
                 refine take_ (i := 7) (N := some 58) (v := ?_) (a' := ?_) #[true, true, true, true, true, true, true, true, false, false, false, false, false, false, false, false, false, false, false, false, false, false, false, false, false, false, false, false, false, false, false, false, false, false, false, false] rfl rfl (take_ofW HT_.out HW_.out (by kernel_rfl)) (fun _ _ _ h => h) (Or.inl ⟨by rfl, ?_⟩) hHeld ?_ ?_
                 rotate_left
                 ·
                  rintro w' ⟨s0, s1, s2⟩
                  go_simp
                  with_reducible rfl
                 rotate_left
                 ·
                  simp only [Act.put, List.setIfInBounds_toArray, List.set_cons_zero, List.set_cons_succ, i64_w, i32_w]
                  rfl
                 refine one_ (i := 8) (N := some 59) #[true, true, true, true, true, true, true, true, true, false, false, false, false, false, false, false, false, false, false, false, false, false, false, false, false, false, false, false, false, false, false, false, false, false, false, false] rfl rfl (one_of HT_.out (by kernel_rfl)) (by decide) (fun K hK => ?_)
                 refine goes_ Try.func24 (by kernel_rfl) rfl #[.slice Ao40 x7_1.length co40, .int .i64 (rd t453 x9_1)] (by rfl) rfl rfl (by (try simp only [List.map_toArray, List.map_cons, List.map_nil]); first | done | rfl | (simp only [List.length_drop, List.length_take]; rfl)) ?_
                 with_reducible refine (laws_within.calls k1 _ _ x7_1 (rd t453 x9_1) false _ ?side1 ?side2 A28.out).mono ?_
                 (case side1 => repeat (first | exact (Kd.R_reads' HO_7.out).2.2 | (with_reducible refine Kd.C_alloc ?_ _) | (with_reducible refine Kd.C_drewN ?_ _) | (with_reducible refine Kd.C_drew ?_)))
                 (case side2 => exact (Kd.R_reads' HO_7.out).2.1)
                 rintro e w' ⟨rfl, ⟨nd, rfl⟩⟩
                 refine ⟨_, rfl, ?_⟩
                 refine hK.out _ _ ⟨hHeld.1, hHeld.2.1, hHeld.2.2⟩ (fun hHeld => ?_)
                 clear hK K
                 refine norm_ (a' := ?_) ?_ ?_
                 rotate_left
                 ·
                  show Act.put _ (some 59) _ = _
                  simp only [Act.put, List.setIfInBounds_toArray, List.set_cons_zero, List.set_cons_succ, i64_w, i32_w]
                  rfl
                 refine pure_ (i := 9) (N := some 60) (v := ?_) (a' := ?_) #[true, true, true, true, true, true, true, true, true, true, false, false, false, false, false, false, false, false, false, false, false, false, false, false, false, false, false, false, false, false, false, false, false, false, false, false] rfl rfl (any_of HT_.out (by kernel_rfl)) (fun _ _ _ h => h) (Or.inl ⟨by rfl, ?_⟩) ?_ ?_
                 rotate_left
                 ·
                  intro w'
                  go_simp
                  with_reducible rfl
                 rotate_left
                 ·
                  simp only [Act.put, List.setIfInBounds_toArray, List.set_cons_zero, List.set_cons_succ, i64_w, i32_w]
                  rfl
                 refine pure_ (i := 10) (N := some 61) (v := ?_) (a' := ?_) #[true, true, true, true, true, true, true, true, true, true, true, false, false, false, false, false, false, false, false, false, false, false, false, false, false, false, false, false, false, false, false, false, false, false, false, false] rfl rfl (any_of HT_.out (by kernel_rfl)) (fun _ _ _ h => h) (Or.inl ⟨by rfl, ?_⟩) ?_ ?_
                 rotate_left
                 ·
                  intro w'
                  go_simp
                  with_reducible rfl
                 rotate_left
                 ·
                  simp only [Act.put, List.setIfInBounds_toArray, List.set_cons_zero, List.set_cons_succ, i64_w, i32_w]
                  rfl
                 refine pure_ (i := 11) (N := some 62) (v := ?_) (a' := ?_) #[true, true, true, true, true, true, true, true, true, true, true, true, false, false, false, false, false, false, false, false, false, false, false, false, false, false, false, false, false, false, false, false, false, false, false, false] rfl rfl (any_of HT_.out (by kernel_rfl)) (fun _ _ _ h => h) (Or.inl ⟨by rfl, ?_⟩) ?_ ?_
                 rotate_left
                 ·
                  intro w'
                  go_simp
                  with_reducible rfl
                 rotate_left
                 ·
                  simp only [Act.put, List.setIfInBounds_toArray, List.set_cons_zero, List.set_cons_succ, i64_w, i32_w]
                  rfl
                 refine pure_ (i := 12) (N := some 63) (v := ?_) (a' := ?_) #[true, true, true, true, true, true, true, true, true, true, true, true, true, false, false, false, false, false, false, false, false, false, false, false, false, false, false, false, false, false, false, false, false, false, false, false] rfl rfl (any_of HT_.out (by kernel_rfl)) (fun _ _ _ h => h) (Or.inl ⟨by rfl, ?_⟩) ?_ ?_
                 rotate_left
                 ·
                  intro w'
                  go_simp
                  with_reducible rfl
                 rotate_left
                 ·
                  simp only [Act.put, List.setIfInBounds_toArray, List.set_cons_zero, List.set_cons_succ, i64_w, i32_w]
                  rfl
                 refine pure_ (i := 13) (N := some 64) (v := ?_) (a' := ?_) #[true, true, true, true, true, true, true, true, true, true, true, true, true, true, false, false, false, false, false, false, false, false, false, false, false, false, false, false, false, false, false, false, false, false, false, false] rfl rfl (any_of HT_.out (by kernel_rfl)) (fun _ _ _ h => h) (Or.inl ⟨by rfl, ?_⟩) ?_ ?_
                 rotate_left
                 ·
                  intro w'
                  go_simp
                  with_reducible rfl
                 rotate_left
                 ·
                  simp only [Act.put, List.setIfInBounds_toArray, List.set_cons_zero, List.set_cons_succ, i64_w, i32_w]
                  rfl
                 refine pure_ (i := 14) (N := some 65) (v := ?_) (a' := ?_) #[true, true, true, true, true, true, true, true, true, true, true, true, true, true, true, false, false, false, false, false, false, false, false, false, false, false, false, false, false, false, false, false, false, false, false, false] rfl rfl (any_of HT_.out (by kernel_rfl)) (fun _ _ _ h => h) (Or.inl ⟨by rfl, ?_⟩) ?_ ?_
                 rotate_left
                 ·
                  intro w'
                  go_simp
                  with_reducible rfl
                 rotate_left
                 ·
                  simp only [Act.put, List.setIfInBounds_toArray, List.set_cons_zero, List.set_cons_succ, i64_w, i32_w]
                  rfl
                 refine pure_ (i := 15) (N := some 66) (v := ?_) (a' := ?_) #[true, true, true, true, true, true, true, true, true, true, true, true, true, true, true, true, false, false, false, false, false, false, false, false, false, false, false, false, false, false, false, false, false, false, false, false] rfl rfl (any_of HT_.out (by kernel_rfl)) (fun _ _ _ h => h) (Or.inl ⟨by rfl, ?_⟩) ?_ ?_
                 rotate_left
                 ·
                  intro w'
                  go_simp
                  with_reducible rfl
                 rotate_left
                 ·
                  simp only [Act.put, List.setIfInBounds_toArray, List.set_cons_zero, List.set_cons_succ, i64_w, i32_w]
                  rfl
                 refine pure_ (i := 16) (N := some 67) (v := ?_) (a' := ?_) #[true, true, true, true, true, true, true, true, true, true, true, true, true, true, true, true, true, false, false, false, false, false, false, false, false, false, false, false, false, false, false, false, false, false, false, false] rfl rfl (any_of HT_.out (by kernel_rfl)) (fun _ _ _ h => h) (Or.inl ⟨by rfl, ?_⟩) ?_ ?_
                 rotate_left
                 ·
                  intro w'
                  go_simp
                  with_reducible rfl
                 rotate_left
                 ·
                  simp only [Act.put, List.setIfInBounds_toArray, List.set_cons_zero, List.set_cons_succ, i64_w, i32_w]
                  rfl
                 refine pure_ (i := 17) (N := some 68) (v := ?_) (a' := ?_) #[true, true, true, true, true, true, true, true, true, true, true, true, true, true, true, true, true, true, false, false, false, false, false, false, false, false, false, false, false, false, false, false, false, false, false, false] rfl rfl (any_of HT_.out (by kernel_rfl)) (fun _ _ _ h => h) (Or.inl ⟨by rfl, ?_⟩) ?_ ?_
                 rotate_left
                 ·
                  intro w'
                  go_simp
                  with_reducible rfl
                 rotate_left
                 ·
                  simp only [Act.put, List.setIfInBounds_toArray, List.set_cons_zero, List.set_cons_succ, i64_w, i32_w]
                  rfl
                 refine pure_ (i := 18) (N := some 69) (v := ?_) (a' := ?_) #[true, true, true, true, true, true, true, true, true, true, true, true, true, true, true, true, true, true, true, false, false, false, false, false, false, false, false, false, false, false, false, false, false, false, false, false] rfl rfl (any_of HT_.out (by kernel_rfl)) (fun _ _ _ h => h) (Or.inl ⟨by rfl, ?_⟩) ?_ ?_
                 rotate_left
                 ·
                  intro w'
                  go_simp
                  with_reducible rfl
                 rotate_left
                 ·
                  simp only [Act.put, List.setIfInBounds_toArray, List.set_cons_zero, List.set_cons_succ, i64_w, i32_w]
                  rfl
                 refine pure_ (i := 19) (N := some 70) (v := ?_) (a' := ?_) #[true, true, true, true, true, true, true, true, true, true, true, true, true, true, true, true, true, true, true, true, false, false, false, false, false, false, false, false, false, false, false, false, false, false, false, false] rfl rfl (any_of HT_.out (by kernel_rfl)) (fun _ _ _ h => h) (Or.inl ⟨by rfl, ?_⟩) ?_ ?_
                 rotate_left
                 ·
                  intro w'
                  go_simp
                  with_reducible rfl
                 rotate_left
                 ·
                  simp only [Act.put, List.setIfInBounds_toArray, List.set_cons_zero, List.set_cons_succ, i64_w, i32_w]
                  rfl
                 refine pure_ (i := 20) (N := some 71) (v := ?_) (a' := ?_) #[true, true, true, true, true, true, true, true, true, true, true, true, true, true, true, true, true, true, true, true, true, false, false, false, false, false, false, false, false, false, false, false, false, false, false, false] rfl rfl (any_of HT_.out (by kernel_rfl)) (fun _ _ _ h => h) (Or.inl ⟨by rfl, ?_⟩) ?_ ?_
                 rotate_left
                 ·
                  intro w'
                  go_simp
                  with_reducible rfl
                 rotate_left
                 ·
                  simp only [Act.put, List.setIfInBounds_toArray, List.set_cons_zero, List.set_cons_succ, i64_w, i32_w]
                  rfl
                 refine pure_ (i := 21) (N := some 72) (v := ?_) (a' := ?_) #[true, true, true, true, true, true, true, true, true, true, true, true, true, true, true, true, true, true, true, true, true, true, false, false, false, false, false, false, false, false, false, false, false, false, false, false] rfl rfl (any_of HT_.out (by kernel_rfl)) (fun _ _ _ h => h) (Or.inl ⟨by rfl, ?_⟩) ?_ ?_
                 rotate_left
                 ·
                  intro w'
                  go_simp
                  with_reducible rfl
                 rotate_left
                 ·
                  simp only [Act.put, List.setIfInBounds_toArray, List.set_cons_zero, List.set_cons_succ, i64_w, i32_w]
                  rfl
                 refine pure_ (i := 22) (N := some 73) (v := ?_) (a' := ?_) #[true, true, true, true, true, true, true, true, true, true, true, true, true, true, true, true, true, true, true, true, true, true, true, false, false, false, false, false, false, false, false, false, false, false, false, false] rfl rfl (any_of HT_.out (by kernel_rfl)) (fun _ _ _ h => h) (Or.inl ⟨by rfl, ?_⟩) ?_ ?_
                 rotate_left
                 ·
                  intro w'
                  go_simp
                  with_reducible rfl
                 rotate_left
                 ·
                  simp only [Act.put, List.setIfInBounds_toArray, List.set_cons_zero, List.set_cons_succ, i64_w, i32_w]
                  rfl
                 refine pure_ (i := 23) (N := some 74) (v := ?_) (a' := ?_) #[true, true, true, true, true, true, true, true, true, true, true, true, true, true, true, true, true, true, true, true, true, true, true, true, false, false, false, false, false, false, false, false, false, false, false, false] rfl rfl (any_of HT_.out (by kernel_rfl)) (fun _ _ _ h => h) (Or.inl ⟨by rfl, ?_⟩) ?_ ?_
                 rotate_left
                 ·
                  intro w'
                  go_simp
                  with_reducible rfl
                 rotate_left
                 ·
                  simp only [Act.put, List.setIfInBounds_toArray, List.set_cons_zero, List.set_cons_succ, i64_w, i32_w]
                  rfl
                 refine pure_ (i := 24) (N := some 75) (v := ?_) (a' := ?_) #[true, true, true, true, true, true, true, true, true, true, true, true, true, true, true, true, true, true, true, true, true, true, true, true, true, false, false, false, false, false, false, false, false, false, false, false] rfl rfl (any_of HT_.out (by kernel_rfl)) (fun _ _ _ h => h) (Or.inl ⟨by rfl, ?_⟩) ?_ ?_
                 rotate_left
                 ·
                  intro w'
                  go_simp
                  with_reducible rfl
                 rotate_left
                 ·
                  simp only [Act.put, List.setIfInBounds_toArray, List.set_cons_zero, List.set_cons_succ, i64_w, i32_w]
                  rfl
                 refine pure_ (i := 26) (N := some 77) (v := ?_) (a' := ?_) #[true, true, true, true, true, true, true, true, true, true, true, true, true, true, true, true, true, true, true, true, true, true, true, true, true, false, true, false, false, false, false, false, false, false, false, false] rfl rfl (any_of HT_.out (by kernel_rfl)) (fun _ _ _ h => h) (Or.inl ⟨by rfl, ?_⟩) ?_ ?_
                 rotate_left
                 ·
                  intro w'
                  go_simp
                  with_reducible rfl
                 rotate_left
                 ·
                  simp only [Act.put, List.setIfInBounds_toArray, List.set_cons_zero, List.set_cons_succ, i64_w, i32_w]
                  rfl
                 refine pure_ (i := 27) (N := some 78) (v := ?_) (a' := ?_) #[true, true, true, true, true, true, true, true, true, true, true, true, true, true, true, true, true, true, true, true, true, true, true, true, true, false, true, true, false, false, false, false, false, false, false, false] rfl rfl (any_of HT_.out (by kernel_rfl)) (fun _ _ _ h => h) (Or.inl ⟨by rfl, ?_⟩) ?_ ?_
                 rotate_left
                 ·
                  intro w'
                  go_simp
                  with_reducible rfl
                 rotate_left
                 ·
                  simp only [Act.put, List.setIfInBounds_toArray, List.set_cons_zero, List.set_cons_succ, i64_w, i32_w]
                  rfl
                 refine pure_ (i := 28) (N := some 79) (v := ?_) (a' := ?_) #[true, true, true, true, true, true, true, true, true, true, true, true, true, true, true, true, true, true, true, true, true, true, true, true, true, false, true, true, true, false, false, false, false, false, false, false] rfl rfl (any_of HT_.out (by kernel_rfl)) (fun _ _ _ h => h) (Or.inl ⟨by rfl, ?_⟩) ?_ ?_
                 rotate_left
                 ·
                  intro w'
                  go_simp
                  with_reducible rfl
                 rotate_left
                 ·
                  simp only [Act.put, List.setIfInBounds_toArray, List.set_cons_zero, List.set_cons_succ, i64_w, i32_w]
                  rfl
                 refine pure_ (i := 29) (N := some 80) (v := ?_) (a' := ?_) #[true, true, true, true, true, true, true, true, true, true, true, true, true, true, true, true, true, true, true, true, true, true, true, true, true, false, true, true, true, true, false, false, false, false, false, false] rfl rfl (any_of HT_.out (by kernel_rfl)) (fun _ _ _ h => h) (Or.inl ⟨by rfl, ?_⟩) ?_ ?_
                 rotate_left
                 ·
                  intro w'
                  go_simp
                  with_reducible rfl
                 rotate_left
                 ·
                  simp only [Act.put, List.setIfInBounds_toArray, List.set_cons_zero, List.set_cons_succ, i64_w, i32_w]
                  rfl
                 refine take_ (i := 25) (N := some 76) (v := ?_) (a' := ?_) #[true, true, true, true, true, true, true, true, true, true, true, true, true, true, true, true, true, true, true, true, true, true, true, true, true, true, true, true, true, true, false, false, false, false, false, false] rfl rfl (take_ofW HT_.out HW_.out (by kernel_rfl)) (fun _ _ _ h => h) (Or.inl ⟨by rfl, ?_⟩) hHeld ?_ ?_
                 rotate_left
                 ·
                  rintro w' ⟨s0, s1, s2⟩
                  go_simp
                  with_reducible rfl
                 rotate_left
                 ·
                  simp only [Act.put, List.setIfInBounds_toArray, List.set_cons_zero, List.set_cons_succ, i64_w, i32_w]
                  rfl
                 refine take_ (i := 30) (N := some 81) (v := ?_) (a' := ?_) #[true, true, true, true, true, true, true, true, true, true, true, true, true, true, true, true, true, true, true, true, true, true, true, true, true, true, true, true, true, true, true, false, false, false, false, false] rfl rfl (take_ofW HT_.out HW_.out (by kernel_rfl)) (fun _ _ _ h => h) (Or.inl ⟨by rfl, ?_⟩) hHeld ?_ ?_
                 rotate_left
                 ·
                  rintro w' ⟨s0, s1, s2⟩
                  go_simp
                  with_reducible rfl
                 rotate_left
                 ·
                  simp only [Act.put, List.setIfInBounds_toArray, List.set_cons_zero, List.set_cons_succ, i64_w, i32_w]
                  rfl
                 refine pure_ (i := 31) (N := some 82) (v := ?_) (a' := ?_) #[true, true, true, true, true, true, true, true, true, true, true, true, true, true, true, true, true, true, true, true, true, true, true, true, true, true, true, true, true, true, true, true, false, false, false, false] rfl rfl (any_of HT_.out (by kernel_rfl)) (fun _ _ _ h => h) (Or.inl ⟨by rfl, ?_⟩) ?_ ?_
                 rotate_left
                 ·
                  intro w'
                  go_simp
                  with_reducible rfl
                 rotate_left
                 ·
                  simp only [Act.put, List.setIfInBounds_toArray, List.set_cons_zero, List.set_cons_succ, i64_w, i32_w]
                  rfl
                 refine pure_ (i := 32) (N := some 83) (v := ?_) (a' := ?_) #[true, true, true, true, true, true, true, true, true, true, true, true, true, true, true, true, true, true, true, true, true, true, true, true, true, true, true, true, true, true, true, true, true, false, false, false] rfl rfl (any_of HT_.out (by kernel_rfl)) (fun _ _ _ h => h) (Or.inl ⟨by rfl, ?_⟩) ?_ ?_
                 rotate_left
                 ·
                  intro w'
                  go_simp
                  with_reducible rfl
                 rotate_left
                 ·
                  simp only [Act.put, List.setIfInBounds_toArray, List.set_cons_zero, List.set_cons_succ, i64_w, i32_w]
                  rfl
                 refine pure_ (i := 33) (N := some 84) (v := ?_) (a' := ?_) #[true, true, true, true, true, true, true, true, true, true, true, true, true, true, true, true, true, true, true, true, true, true, true, true, true, true, true, true, true, true, true, true, true, true, false, false] rfl rfl (any_of HT_.out (by kernel_rfl)) (fun _ _ _ h => h) (Or.inl ⟨by rfl, ?_⟩) ?_ ?_
                 rotate_left
                 ·
                  intro w'
                  go_simp
                  with_reducible rfl
                 rotate_left
                 ·
                  simp only [Act.put, List.setIfInBounds_toArray, List.set_cons_zero, List.set_cons_succ, i64_w, i32_w]
                  rfl
                 refine pure_ (i := 34) (N := some 85) (v := ?_) (a' := ?_) #[true, true, true, true, true, true, true, true, true, true, true, true, true, true, true, true, true, true, true, true, true, true, true, true, true, true, true, true, true, true, true, true, true, true, true, false] rfl rfl (any_of HT_.out (by kernel_rfl)) (fun _ _ _ h => h) (Or.inl ⟨by rfl, ?_⟩) ?_ ?_
                 rotate_left
                 ·
                  intro w'
                  go_simp
                  with_reducible rfl
                 rotate_left
                 ·
                  simp only [Act.put, List.setIfInBounds_toArray, List.set_cons_zero, List.set_cons_succ, i64_w, i32_w]
                  rfl
                 refine pure_ (i := 35) (N := some 86) (v := ?_) (a' := ?_) #[true, true, true, true, true, true, true, true, true, true, true, true, true, true, true, true, true, true, true, true, true, true, true, true, true, true, true, true, true, true, true, true, true, true, true, true] rfl rfl (any_of HT_.out (by kernel_rfl)) (fun _ _ _ h => h) (Or.inl ⟨by rfl, ?_⟩) ?_ ?_
                 rotate_left
                 ·
                  intro w'
                  go_simp
                  with_reducible rfl
                 rotate_left
                 ·
                  simp only [Act.put, List.setIfInBounds_toArray, List.set_cons_zero, List.set_cons_succ, i64_w, i32_w]
                  rfl
                 refine done_ (done_of HT_.out (by kernel_rfl)) ?_
                 have p471 : 0 ≤ (x9_1 : Int) := of_decide_eq_true (by first | (with_reducible assumption) | assumption)
                 have q471 : x9_1 < (t453.length : Int) := of_decide_eq_true (by first | (with_reducible assumption) | assumption)
                 obtain ⟨ad471, e471, hx471_0⟩ := Kd.at_int (Kd.R_reads' HO_5.out).2.2 x9_1 p471 q471
                 obtain rfl : ad463 = ad471 := (by injection e471)
                 replace p471 := eq_true p471
                 replace q471 := eq_true q471
                 try go_wp2_with (first | ((with_reducible refine gate_builtin (b := .append) (xs := #[.tmp 87, .tmp 92]) rfl ?_); at_builtin; refine Kd.R_append (Kd.int .i64) (w0 := w) w.heap.size rfl (.tmp 87) (.tmp 92) 22 3 (.int .i64 0) 8 rfl Try.underlying22 info3 rfl (by decide) (by omega) (.slice Ao40 x7_1.length co40) x7_1 (rd t453 x9_1) [.int .i64 (rd t453 x9_1)] (fun k_ => some k_ ≠ (.slice Ao17 t450.length co17 : Value).ownBlock ∧ some k_ ≠ (.slice (some ad463) t453.length co20 : Value).ownBlock) (fun _ => False) rfl rfl ?aP (fun _ hk => hk.elim) ?aF ?aO ?aB ?aS ?aL ?_; (case aP => exact rfl); (case aB => exact (by repeat (first | (with_reducible first | exact HB.out | apply below_alloc | apply pw_below_drewN | apply below_drew1) | exact HB.out))); (case aF => exact (fun k_ hk => ⟨Kd.fresh' (Kd.R_lt (by (with_reducible repeat (first | apply Kd.R_alloc | apply Kd.R_drewN | apply Kd.R_drew)); exact HO_4.out)) k_ hk, Kd.fresh' (Kd.R_lt (by (with_reducible repeat (first | apply Kd.R_alloc | apply Kd.R_drewN | apply Kd.R_drew)); exact HO_5.out)) k_ hk⟩)); (case aO => exact (by (with_reducible repeat (first | apply Kd.R_alloc | apply Kd.R_drewN | apply Kd.R_drew)); exact HO_7.out)); (case aS => exact (below_size (by repeat (first | (with_reducible first | exact HB.out | apply below_alloc | apply pw_below_drewN | apply below_drew1) | exact HB.out)))); (case aL => have := LMc37.out; omega); intro v473 w41 ho hb hg hat; rw [← Ny472.out] at ho; have n0_ := Aside0.mk (Kd.R_after (ok := (fun k_ => some k_ ≠ (.slice (some ad463) t453.length co20 : Value).ownBlock)) (by (with_reducible repeat (first | apply Kd.R_alloc | apply Kd.R_drewN | apply Kd.R_drew)); exact HO_4.out) hg hat); have n1_ := Aside0.mk (Kd.R_after (ok := (fun k_ => some k_ ≠ (.slice Ao17 t450.length co17 : Value).ownBlock)) (by (with_reducible repeat (first | apply Kd.R_alloc | apply Kd.R_drewN | apply Kd.R_drew)); exact HO_5.out) hg hat); have n2_ := Aside0.mk (hb); have n3_ := Aside0.mk (ho); clear HO_4; clear HO_5; clear HB; clear HO_7; have HO_4 := n0_; have HO_5 := n1_; have HB := n2_; have HO474 := n3_; clear n0_ n1_ n2_ n3_; clear ho hb hg hat))
                 go_roundg k1
                 case measure => have := HK1.out; omega
                 case rel => exact ⟨(y472), (t465), (wrap64 (x9_1 + 1)), (by first | rfl | (simp; done) | (simp [*]; done)), (by first | rfl | (simp; done) | (simp [*]; done)), H', ⟨by have := HK1.out; omega⟩, ⟨by (with_reducible repeat (first | apply Kd.R_alloc | apply Kd.R_drewN | apply Kd.R_drew)); exact HO_4.out⟩, ⟨by (with_reducible repeat (first | apply Kd.R_alloc | apply Kd.R_drewN | apply Kd.R_drew)); exact HO_5.out⟩, ⟨by (with_reducible repeat (first | apply Kd.R_alloc | apply Kd.R_drewN | apply Kd.R_drew)); exact HO474.out⟩, ⟨by repeat (first | (with_reducible first | exact HB.out | apply below_alloc | apply pw_below_drewN | apply below_drew1) | exact HB.out)⟩⟩
                ·
                 rw [if_neg c37] at H
                 exact absurd H (by simp)
              ·
               rw [if_neg c35] at H
               exact absurd H (by simp)
             ·
              rw [if_neg c34] at H
              exact absurd H (by simp)
            ·
             rw [if_neg c32] at H
             have c32b0 : (t465 == x8_1) = false := beq_eq_false_iff_ne.mpr c32
             have c32b1 : (t465 != x8_1) = true := bne_iff_ne.mpr c32
             by_cases c42 : x7_1.length < 17592186044416
             ·
              rw [if_pos c42] at H
              have LMc42 := Aside0.mk c42
              clear c42
              obtain ⟨y476, hy476⟩ : ∃ y_ : List Int, y_ = (x7_1 ++ [rd t453 x9_1]) := ⟨_, rfl⟩
              replace H : (laws_FnShareOrder.l0 k1 t449 t450 t453 y476 t465 (wrap64 (x9_1 + 1))) = some r := by first | (rw [hy476]; with_reducible exact H) | (have H2_ := (Option.bind_some _ _).symm.trans H; rw [hy476]; with_reducible exact H2_) | (have H2_ := (Option.bind_some _ _).symm.trans H; with_reducible exact H2_) | with_reducible exact H | (rw [hy476]; exact H) | exact H
              have Ny476 := Aside0.mk hy476
              clear hy476
              have H' := Aside0.mk H
              clear H
              have p463 : 0 ≤ (x9_1 : Int) := of_decide_eq_true (by first | (with_reducible assumption) | assumption)
              have q463 : x9_1 < (t453.length : Int) := of_decide_eq_true (by first | (with_reducible assumption) | assumption)
              obtain ⟨ad463, e463, hx463_0⟩ := Kd.at_int (Kd.R_reads' HO_5.out).2.2 x9_1 p463 q463
              cases e463
              replace p463 := eq_true p463
              replace q463 := eq_true q463
              try go_wp2_with (first | ((with_reducible refine gate_callee (f := 14) rfl ?_); refine goesL_ (some 47) rfl rfl Try.func14 (by kernel_rfl) rfl #[.int .i64 t449, .slice Ao17 t450.length co17, .int .i64 (rd t453 x9_1)] rfl (by (try simp only [List.map_toArray, List.map_cons, List.map_nil]); first | done | rfl | (simp only [List.length_drop, List.length_take]; rfl)) ?_; (with_reducible refine (impl_ShareQuota.calls k1 t449 _ _ t450 (rd t453 x9_1) t464 t465 true _ ?side1 ?side2 A26.out).mono ?_); (case side1 => repeat (first | exact (Kd.R_reads' HO_4.out).2.2 | (with_reducible refine Kd.C_alloc ?_ _) | (with_reducible refine Kd.C_drewN ?_ _) | (with_reducible refine Kd.C_drew ?_))); (case side2 => exact (Kd.R_reads' HO_4.out).2.1); rintro e w43 ⟨rfl, hb⟩; refine ⟨_, rfl, ?_⟩; have n0_ := Aside0.mk (Kd.R_below (by (with_reducible repeat (first | apply Kd.R_alloc | apply Kd.R_drewN | apply Kd.R_drew)); exact HO_4.out) hb); have n1_ := Aside0.mk (Kd.R_below (by (with_reducible repeat (first | apply Kd.R_alloc | apply Kd.R_drewN | apply Kd.R_drew)); exact HO_5.out) hb); have n2_ := Aside0.mk (Kd.R_below (by (with_reducible repeat (first | apply Kd.R_alloc | apply Kd.R_drewN | apply Kd.R_drew)); exact HO_7.out) hb); have n3_ := Aside0.mk (below_step (by repeat (first | (with_reducible first | exact HB.out | apply below_alloc | apply pw_below_drewN | apply below_drew1) | exact HB.out)) hb); clear HO_4; clear HO_5; clear HO_7; clear HB; have HO_4 := n0_; have HO_5 := n1_; have HO_7 := n2_; have HB := n3_; clear n0_ n1_ n2_ n3_; (try clear hb); (try clear hb2); (try clear hk); (try clear hi)))
              have n0_ := Aside0.mk (Kd.R_drew HO_4.out)
              have n1_ := Aside0.mk (Kd.R_drew HO_5.out)
              have n2_ := Aside0.mk (Kd.R_drew HO_7.out)
              have n3_ := Aside0.mk (below_drew1 HB.out)
              clear HO_4
              clear HO_5
              clear HO_7
              clear HB
              have HO_4 := n0_
              have HO_5 := n1_
              have HO_7 := n2_
              have HB := n3_
              clear n0_ n1_ n2_ n3_
              have p467 : 0 ≤ (x9_1 : Int) := of_decide_eq_true (by first | (with_reducible assumption) | assumption)
              have q467 : x9_1 < (t453.length : Int) := of_decide_eq_true (by first | (with_reducible assumption) | assumption)
              obtain ⟨ad467, e467, hx467_0⟩ := Kd.at_int (Kd.R_reads' HO_5.out).2.2 x9_1 p467 q467
              obtain rfl : ad463 = ad467 := (by injection e467)
              replace p467 := eq_true p467
              replace q467 := eq_true q467
              obtain ⟨Ao45, co45, eo45⟩ := Kd.R_slice HO_7.out
              (first | subst eo45 | (injection eo45 with f1_ f2_ f3_; have f4_ := f1_.symm; have f5_ := f3_.symm; clear f1_ f2_ f3_; subst f4_; subst f5_))
              refine start_ (n := 36) (S := fun w' => w'.cell? (ad463.add (x9_1).toNat) = some (.int .i64 (rd t453 x9_1))) (ds := []) #[false, false, false, false, false, false, false, false, false, false, false, false, false, false, false, false, false, false, false, false, false, false, false, false, false, false, false, false, false, false, false, false, false, false, false, false] (by kernel_rfl) rfl rfl (hx467_0) (fun hHeld => ?_); refine with_tabW laws_FnShareOrder.tab16 laws_FnShareOrder.bits16 (fun HT_ HW_ => ?_)
              generalize w43.drew = w44 at HO_4 HO_5 HO_7 HB hx467_0 hHeld ⊢
              refine pure_ (i := 0) (N := some 51) (v := ?_) (a' := ?_) #[true, false, false, false, false, false, false, false, false, false, false, false, false, false, false, false, false, false, false, false, false, false, false, false, false, false, false, false, false, false, false, false, false, false, false, false] rfl rfl (any_of HT_.out (by kernel_rfl)) (fun _ _ _ h => h) (Or.inl ⟨by rfl, ?_⟩) ?_ ?_
              rotate_left
              ·
               intro w'
               go_simp
               with_reducible rfl
              rotate_left
              ·
               simp only [Act.put, List.setIfInBounds_toArray, List.set_cons_zero, List.set_cons_succ, i64_w, i32_w]
               rfl
              refine pure_ (i := 1) (N := some 52) (v := ?_) (a' := ?_) #[true, true, false, false, false, false, false, false, false, false, false, false, false, false, false, false, false, false, false, false, false, false, false, false, false, false, false, false, false, false, false, false, false, false, false, false] rfl rfl (any_of HT_.out (by kernel_rfl)) (fun _ _ _ h => h) (Or.inl ⟨by rfl, ?_⟩) ?_ ?_
              rotate_left
              ·
               intro w'
               go_simp
               with_reducible rfl
              rotate_left
              ·
               simp only [Act.put, List.setIfInBounds_toArray, List.set_cons_zero, List.set_cons_succ, i64_w, i32_w]
               rfl
              refine pure_ (i := 2) (N := some 53) (v := ?_) (a' := ?_) #[true, true, true, false, false, false, false, false, false, false, false, false, false, false, false, false, false, false, false, false, false, false, false, false, false, false, false, false, false, false, false, false, false, false, false, false] rfl rfl (any_of HT_.out (by kernel_rfl)) (fun _ _ _ h => h) (Or.inl ⟨by rfl, ?_⟩) ?_ ?_
              rotate_left
              ·
               intro w'
               go_simp
               with_reducible rfl
              rotate_left
              ·
               simp only [Act.put, List.setIfInBounds_toArray, List.set_cons_zero, List.set_cons_succ, i64_w, i32_w]
               rfl
              refine pure_ (i := 3) (N := some 54) (v := ?_) (a' := ?_) #[true, true, true, true, false, false, false, false, false, false, false, false, false, false, false, false, false, false, false, false, false, false, false, false, false, false, false, false, false, false, false, false, false, false, false, false] rfl rfl (any_of HT_.out (by kernel_rfl)) (fun _ _ _ h => h) (Or.inl ⟨by rfl, ?_⟩) ?_ ?_
              rotate_left
              ·
               intro w'
               go_simp
               with_reducible rfl
              rotate_left
              ·
               simp only [Act.put, List.setIfInBounds_toArray, List.set_cons_zero, List.set_cons_succ, i64_w, i32_w]
               rfl
              refine pure_ (i := 4) (N := some 55) (v := ?_) (a' := ?_) #[true, true, true, true, true, false, false, false, false, false, false, false, false, false, false, false, false, false, false, false, false, false, false, false, false, false, false, false, false, false, false, false, false, false, false, false] rfl rfl (any_of HT_.out (by kernel_rfl)) (fun _ _ _ h => h) (Or.inl ⟨by rfl, ?_⟩) ?_ ?_
              rotate_left
              ·
               intro w'
               go_simp
               with_reducible rfl
              rotate_left
              ·
               simp only [Act.put, List.setIfInBounds_toArray, List.set_cons_zero, List.set_cons_succ, i64_w, i32_w]
               rfl
              refine pure_ (i := 5) (N := some 56) (v := ?_) (a' := ?_) #[true, true, true, true, true, true, false, false, false, false, false, false, false, false, false, false, false, false, false, false, false, false, false, false, false, false, false, false, false, false, false, false, false, false, false, false] rfl rfl (any_of HT_.out (by kernel_rfl)) (fun _ _ _ h => h) (Or.inl ⟨by rfl, ?_⟩) ?_ ?_
              rotate_left
              ·
               intro w'
               go_simp
               with_reducible rfl
              rotate_left
              ·
               simp only [Act.put, List.setIfInBounds_toArray, List.set_cons_zero, List.set_cons_succ, i64_w, i32_w]
               rfl
              refine pure_ (i := 6) (N := some 57) (v := ?_) (a' := ?_) #[true, true, true, true, true, true, true, false, false, false, false, false, false, false, false, false, false, false, false, false, false, false, false, false, false, false, false, false, false, false, false, false, false, false, false, false] rfl rfl (any_of HT_.out (by kernel_rfl)) (fun _ _ _ h => h) (Or.inl ⟨by rfl, ?_⟩) ?_ ?_
              rotate_left
              ·
               intro w'
               go_simp
               with_reducible rfl
              rotate_left
              ·
               simp only [Act.put, List.setIfInBounds_toArray, List.set_cons_zero, List.set_cons_succ, i64_w, i32_w]
               rfl
              refine take_ (i := 7) (N := some 58) (v := ?_) (a' := ?_) #[true, true, true, true, true, true, true, true, false, false, false, false, false, false, false, false, false, false, false, false, false, false, false, false, false, false, false, false, false, false, false, false, false, false, false, false] rfl rfl (take_ofW HT_.out HW_.out (by kernel_rfl)) (fun _ _ _ h => h) (Or.inl ⟨by rfl, ?_⟩) hHeld ?_ ?_
              rotate_left
              ·
               intro w' s0
               go_simp
               with_reducible rfl
              rotate_left
              ·
               simp only [Act.put, List.setIfInBounds_toArray, List.set_cons_zero, List.set_cons_succ, i64_w, i32_w]
               rfl
              refine one_ (i := 8) (N := some 59) #[true, true, true, true, true, true, true, true, true, false, false, false, false, false, false, false, false, false, false, false, false, false, false, false, false, false, false, false, false, false, false, false, false, false, false, false] rfl rfl (one_of HT_.out (by kernel_rfl)) (by decide) (fun K hK => ?_)
              refine goes_ Try.func24 (by kernel_rfl) rfl #[.slice Ao45 x7_1.length co45, .int .i64 (rd t453 x9_1)] (by rfl) rfl rfl (by (try simp only [List.map_toArray, List.map_cons, List.map_nil]); first | done | rfl | (simp only [List.length_drop, List.length_take]; rfl)) ?_
              with_reducible refine (laws_within.calls k1 _ _ x7_1 (rd t453 x9_1) false _ ?side1 ?side2 A28.out).mono ?_
              (case side1 => repeat (first | exact (Kd.R_reads' HO_7.out).2.2 | (with_reducible refine Kd.C_alloc ?_ _) | (with_reducible refine Kd.C_drewN ?_ _) | (with_reducible refine Kd.C_drew ?_)))
              (case side2 => exact (Kd.R_reads' HO_7.out).2.1)
              rintro e w' ⟨rfl, ⟨nd, rfl⟩⟩
              refine ⟨_, rfl, ?_⟩
              refine hK.out _ _ (hHeld) (fun hHeld => ?_)
              clear hK K
              refine norm_ (a' := ?_) ?_ ?_
              rotate_left
              ·
               show Act.put _ (some 59) _ = _
               simp only [Act.put, List.setIfInBounds_toArray, List.set_cons_zero, List.set_cons_succ, i64_w, i32_w]
               rfl
              refine pure_ (i := 9) (N := some 60) (v := ?_) (a' := ?_) #[true, true, true, true, true, true, true, true, true, true, false, false, false, false, false, false, false, false, false, false, false, false, false, false, false, false, false, false, false, false, false, false, false, false, false, false] rfl rfl (any_of HT_.out (by kernel_rfl)) (fun _ _ _ h => h) (Or.inl ⟨by rfl, ?_⟩) ?_ ?_
              rotate_left
              ·
               intro w'
               go_simp
               with_reducible rfl
              rotate_left
              ·
               simp only [Act.put, List.setIfInBounds_toArray, List.set_cons_zero, List.set_cons_succ, i64_w, i32_w]
               rfl
              refine pure_ (i := 10) (N := some 61) (v := ?_) (a' := ?_) #[true, true, true, true, true, true, true, true, true, true, true, false, false, false, false, false, false, false, false, false, false, false, false, false, false, false, false, false, false, false, false, false, false, false, false, false] rfl rfl (any_of HT_.out (by kernel_rfl)) (fun _ _ _ h => h) (Or.inl ⟨by rfl, ?_⟩) ?_ ?_
              rotate_left
              ·
               intro w'
               go_simp
               with_reducible rfl
              rotate_left
              ·
               simp only [Act.put, List.setIfInBounds_toArray, List.set_cons_zero, List.set_cons_succ, i64_w, i32_w]
               rfl
              refine pure_ (i := 11) (N := some 62) (v := ?_) (a' := ?_) #[true, true, true, true, true, true, true, true, true, true, true, true, false, false, false, false, false, false, false, false, false, false, false, false, false, false, false, false, false, false, false, false, false, false, false, false] rfl rfl (any_of HT_.out (by kernel_rfl)) (fun _ _ _ h => h) (Or.inl ⟨by rfl, ?_⟩) ?_ ?_
              rotate_left
              ·
               intro w'
               go_simp
               with_reducible rfl
              rotate_left
              ·
               simp only [Act.put, List.setIfInBounds_toArray, List.set_cons_zero, List.set_cons_succ, i64_w, i32_w]
               rfl
              refine pure_ (i := 12) (N := some 63) (v := ?_) (a' := ?_) #[true, true, true, true, true, true, true, true, true, true, true, true, true, false, false, false, false, false, false, false, false, false, false, false, false, false, false, false, false, false, false, false, false, false, false, false] rfl rfl (any_of HT_.out (by kernel_rfl)) (fun _ _ _ h => h) (Or.inl ⟨by rfl, ?_⟩) ?_ ?_
              rotate_left
              ·
               intro w'
               go_simp
               with_reducible rfl
              rotate_left
              ·
               simp only [Act.put, List.setIfInBounds_toArray, List.set_cons_zero, List.set_cons_succ, i64_w, i32_w]
               rfl
              refine pure_ (i := 13) (N := some 64) (v := ?_) (a' := ?_) #[true, true, true, true, true, true, true, true, true, true, true, true, true, true, false, false, false, false, false, false, false, false, false, false, false, false, false, false, false, false, false, false, false, false, false, false] rfl rfl (any_of HT_.out (by kernel_rfl)) (fun _ _ _ h => h) (Or.inl ⟨by rfl, ?_⟩) ?_ ?_
              rotate_left
              ·
               intro w'
               go_simp
               with_reducible rfl
              rotate_left
              ·
               simp only [Act.put, List.setIfInBounds_toArray, List.set_cons_zero, List.set_cons_succ, i64_w, i32_w]
               rfl
              refine pure_ (i := 14) (N := some 65) (v := ?_) (a' := ?_) #[true, true, true, true, true, true, true, true, true, true, true, true, true, true, true, false, false, false, false, false, false, false, false, false, false, false, false, false, false, false, false, false, false, false, false, false] rfl rfl (any_of HT_.out (by kernel_rfl)) (fun _ _ _ h => h) (Or.inl ⟨by rfl, ?_⟩) ?_ ?_
              rotate_left
              ·
               intro w'
               go_simp
               with_reducible rfl
              rotate_left
              ·
               simp only [Act.put, List.setIfInBounds_toArray, List.set_cons_zero, List.set_cons_succ, i64_w, i32_w]
               rfl
              refine pure_ (i := 15) (N := some 66) (v := ?_) (a' := ?_) #[true, true, true, true, true, true, true, true, true, true, true, true, true, true, true, true, false, false, false, false, false, false, false, false, false, false, false, false, false, false, false, false, false, false, false, false] rfl rfl (any_of HT_.out (by kernel_rfl)) (fun _ _ _ h => h) (Or.inl ⟨by rfl, ?_⟩) ?_ ?_
              rotate_left
              ·
               intro w'
               go_simp
               with_reducible rfl
              rotate_left
              ·
               simp only [Act.put, List.setIfInBounds_toArray, List.set_cons_zero, List.set_cons_succ, i64_w, i32_w]
               rfl
              refine pure_ (i := 16) (N := some 67) (v := ?_) (a' := ?_) #[true, true, true, true, true, true, true, true, true, true, true, true, true, true, true, true, true, false, false, false, false, false, false, false, false, false, false, false, false, false, false, false, false, false, false, false] rfl rfl (any_of HT_.out (by kernel_rfl)) (fun _ _ _ h => h) (Or.inl ⟨by rfl, ?_⟩) ?_ ?_
              rotate_left
              ·
               intro w'
               go_simp
               with_reducible rfl
              rotate_left
              ·
               simp only [Act.put, List.setIfInBounds_toArray, List.set_cons_zero, List.set_cons_succ, i64_w, i32_w]
               rfl
              refine pure_ (i := 17) (N := some 68) (v := ?_) (a' := ?_) #[true, true, true, true, true, true, true, true, true, true, true, true, true, true, true, true, true, true, false, false, false, false, false, false, false, false, false, false, false, false, false, false, false, false, false, false] rfl rfl (any_of HT_.out (by kernel_rfl)) (fun _ _ _ h => h) (Or.inl ⟨by rfl, ?_⟩) ?_ ?_
              rotate_left
              ·
               intro w'
               go_simp
               with_reducible rfl
              rotate_left
              ·
               simp only [Act.put, List.setIfInBounds_toArray, List.set_cons_zero, List.set_cons_succ, i64_w, i32_w]
               rfl
              refine pure_ (i := 18) (N := some 69) (v := ?_) (a' := ?_) #[true, true, true, true, true, true, true, true, true, true, true, true, true, true, true, true, true, true, true, false, false, false, false, false, false, false, false, false, false, false, false, false, false, false, false, false] rfl rfl (any_of HT_.out (by kernel_rfl)) (fun _ _ _ h => h) (Or.inl ⟨by rfl, ?_⟩) ?_ ?_
              rotate_left
              ·
               intro w'
               go_simp
               with_reducible rfl
              rotate_left
              ·
               simp only [Act.put, List.setIfInBounds_toArray, List.set_cons_zero, List.set_cons_succ, i64_w, i32_w]
               rfl
              refine pure_ (i := 19) (N := some 70) (v := ?_) (a' := ?_) #[true, true, true, true, true, true, true, true, true, true, true, true, true, true, true, true, true, true, true, true, false, false, false, false, false, false, false, false, false, false, false, false, false, false, false, false] rfl rfl (any_of HT_.out (by kernel_rfl)) (fun _ _ _ h => h) (Or.inl ⟨by rfl, ?_⟩) ?_ ?_
              rotate_left
              ·
               intro w'
               go_simp
               with_reducible rfl
              rotate_left
              ·
               simp only [Act.put, List.setIfInBounds_toArray, List.set_cons_zero, List.set_cons_succ, i64_w, i32_w]
               rfl
              refine pure_ (i := 20) (N := some 71) (v := ?_) (a' := ?_) #[true, true, true, true, true, true, true, true, true, true, true, true, true, true, true, true, true, true, true, true, true, false, false, false, false, false, false, false, false, false, false, false, false, false, false, false] rfl rfl (any_of HT_.out (by kernel_rfl)) (fun _ _ _ h => h) (Or.inl ⟨by rfl, ?_⟩) ?_ ?_
              rotate_left
              ·
               intro w'
               go_simp
               with_reducible rfl
              rotate_left
              ·
               simp only [Act.put, List.setIfInBounds_toArray, List.set_cons_zero, List.set_cons_succ, i64_w, i32_w]
               rfl
              refine pure_ (i := 21) (N := some 72) (v := ?_) (a' := ?_) #[true, true, true, true, true, true, true, true, true, true, true, true, true, true, true, true, true, true, true, true, true, true, false, false, false, false, false, false, false, false, false, false, false, false, false, false] rfl rfl (any_of HT_.out (by kernel_rfl)) (fun _ _ _ h => h) (Or.inl ⟨by rfl, ?_⟩) ?_ ?_
              rotate_left
              ·
               intro w'
               go_simp
               with_reducible rfl
              rotate_left
              ·
               simp only [Act.put, List.setIfInBounds_toArray, List.set_cons_zero, List.set_cons_succ, i64_w, i32_w]
               rfl
              refine pure_ (i := 22) (N := some 73) (v := undef) (a' := ?_) #[true, true, true, true, true, true, true, true, true, true, true, true, true, true, true, true, true, true, true, true, true, true, true, false, false, false, false, false, false, false, false, false, false, false, false, false] rfl rfl (any_of HT_.out (by kernel_rfl)) (fun _ _ _ h => h) (Or.inr ⟨by rfl, rfl⟩) ?_ ?_
              rotate_left
              ·
               simp only [Act.put, List.setIfInBounds_toArray, List.set_cons_zero, List.set_cons_succ, i64_w, i32_w]
               rfl
              refine pure_ (i := 23) (N := some 74) (v := undef) (a' := ?_) #[true, true, true, true, true, true, true, true, true, true, true, true, true, true, true, true, true, true, true, true, true, true, true, true, false, false, false, false, false, false, false, false, false, false, false, false] rfl rfl (any_of HT_.out (by kernel_rfl)) (fun _ _ _ h => h) (Or.inr ⟨by rfl, rfl⟩) ?_ ?_
              rotate_left
              ·
               simp only [Act.put, List.setIfInBounds_toArray, List.set_cons_zero, List.set_cons_succ, i64_w, i32_w]
               rfl
              refine pure_ (i := 24) (N := some 75) (v := undef) (a' := ?_) #[true, true, true, true, true, true, true, true, true, true, true, true, true, true, true, true, true, true, true, true, true, true, true, true, true, false, false, false, false, false, false, false, false, false, false, false] rfl rfl (any_of HT_.out (by kernel_rfl)) (fun _ _ _ h => h) (Or.inr ⟨by rfl, rfl⟩) ?_ ?_
              rotate_left
              ·
               simp only [Act.put, List.setIfInBounds_toArray, List.set_cons_zero, List.set_cons_succ, i64_w, i32_w]
               rfl
              refine pure_ (i := 25) (N := some 76) (v := undef) (a' := ?_) #[true, true, true, true, true, true, true, true, true, true, true, true, true, true, true, true, true, true, true, true, true, true, true, true, true, true, false, false, false, false, false, false, false, false, false, false] rfl rfl (any_of HT_.out (by kernel_rfl)) (fun _ _ _ h => h) (Or.inr ⟨by rfl, rfl⟩) ?_ ?_
              rotate_left
              ·
               simp only [Act.put, List.setIfInBounds_toArray, List.set_cons_zero, List.set_cons_succ, i64_w, i32_w]
               rfl
              refine pure_ (i := 26) (N := some 77) (v := undef) (a' := ?_) #[true, true, true, true, true, true, true, true, true, true, true, true, true, true, true, true, true, true, true, true, true, true, true, true, true, true, true, false, false, false, false, false, false, false, false, false] rfl rfl (any_of HT_.out (by kernel_rfl)) (fun _ _ _ h => h) (Or.inr ⟨by rfl, rfl⟩) ?_ ?_
              rotate_left
              ·
               simp only [Act.put, List.setIfInBounds_toArray, List.set_cons_zero, List.set_cons_succ, i64_w, i32_w]
               rfl
              refine pure_ (i := 27) (N := some 78) (v := undef) (a' := ?_) #[true, true, true, true, true, true, true, true, true, true, true, true, true, true, true, true, true, true, true, true, true, true, true, true, true, true, true, true, false, false, false, false, false, false, false, false] rfl rfl (any_of HT_.out (by kernel_rfl)) (fun _ _ _ h => h) (Or.inr ⟨by rfl, rfl⟩) ?_ ?_
              rotate_left
              ·
               simp only [Act.put, List.setIfInBounds_toArray, List.set_cons_zero, List.set_cons_succ, i64_w, i32_w]
               rfl
              refine pure_ (i := 28) (N := some 79) (v := undef) (a' := ?_) #[true, true, true, true, true, true, true, true, true, true, true, true, true, true, true, true, true, true, true, true, true, true, true, true, true, true, true, true, true, false, false, false, false, false, false, false] rfl rfl (any_of HT_.out (by kernel_rfl)) (fun _ _ _ h => h) (Or.inr ⟨by rfl, rfl⟩) ?_ ?_
              rotate_left
              ·
               simp only [Act.put, List.setIfInBounds_toArray, List.set_cons_zero, List.set_cons_succ, i64_w, i32_w]
               rfl
              refine pure_ (i := 29) (N := some 80) (v := undef) (a' := ?_) #[true, true, true, true, true, true, true, true, true, true, true, true, true, true, true, true, true, true, true, true, true, true, true, true, true, true, true, true, true, true, false, false, false, false, false, false] rfl rfl (any_of HT_.out (by kernel_rfl)) (fun _ _ _ h => h) (Or.inr ⟨by rfl, rfl⟩) ?_ ?_
              rotate_left
              ·
               simp only [Act.put, List.setIfInBounds_toArray, List.set_cons_zero, List.set_cons_succ, i64_w, i32_w]
               rfl
              refine pure_ (i := 30) (N := some 81) (v := undef) (a' := ?_) #[true, true, true, true, true, true, true, true, true, true, true, true, true, true, true, true, true, true, true, true, true, true, true, true, true, true, true, true, true, true, true, false, false, false, false, false] rfl rfl (any_of HT_.out (by kernel_rfl)) (fun _ _ _ h => h) (Or.inr ⟨by rfl, rfl⟩) ?_ ?_
              rotate_left
              ·
               simp only [Act.put, List.setIfInBounds_toArray, List.set_cons_zero, List.set_cons_succ, i64_w, i32_w]
               rfl
              refine pure_ (i := 31) (N := some 82) (v := undef) (a' := ?_) #[true, true, true, true, true, true, true, true, true, true, true, true, true, true, true, true, true, true, true, true, true, true, true, true, true, true, true, true, true, true, true, true, false, false, false, false] rfl rfl (any_of HT_.out (by kernel_rfl)) (fun _ _ _ h => h) (Or.inr ⟨by rfl, rfl⟩) ?_ ?_
              rotate_left
              ·
               simp only [Act.put, List.setIfInBounds_toArray, List.set_cons_zero, List.set_cons_succ, i64_w, i32_w]
               rfl
              refine pure_ (i := 32) (N := some 83) (v := ?_) (a' := ?_) #[true, true, true, true, true, true, true, true, true, true, true, true, true, true, true, true, true, true, true, true, true, true, true, true, true, true, true, true, true, true, true, true, true, false, false, false] rfl rfl (any_of HT_.out (by kernel_rfl)) (fun _ _ _ h => h) (Or.inl ⟨by rfl, ?_⟩) ?_ ?_
              rotate_left
              ·
               intro w'
               go_simp
               with_reducible rfl
              rotate_left
              ·
               simp only [Act.put, List.setIfInBounds_toArray, List.set_cons_zero, List.set_cons_succ, i64_w, i32_w]
               rfl
              refine pure_ (i := 33) (N := some 84) (v := ?_) (a' := ?_) #[true, true, true, true, true, true, true, true, true, true, true, true, true, true, true, true, true, true, true, true, true, true, true, true, true, true, true, true, true, true, true, true, true, true, false, false] rfl rfl (any_of HT_.out (by kernel_rfl)) (fun _ _ _ h => h) (Or.inl ⟨by rfl, ?_⟩) ?_ ?_
              rotate_left
              ·
               intro w'
               go_simp
               with_reducible rfl
              rotate_left
              ·
               simp only [Act.put, List.setIfInBounds_toArray, List.set_cons_zero, List.set_cons_succ, i64_w, i32_w]
               rfl
              refine pure_ (i := 34) (N := some 85) (v := ?_) (a' := ?_) #[true, true, true, true, true, true, true, true, true, true, true, true, true, true, true, true, true, true, true, true, true, true, true, true, true, true, true, true, true, true, true, true, true, true, true, false] rfl rfl (any_of HT_.out (by kernel_rfl)) (fun _ _ _ h => h) (Or.inl ⟨by rfl, ?_⟩) ?_ ?_
              rotate_left
              ·
               intro w'
               go_simp
               with_reducible rfl
              rotate_left
              ·
               simp only [Act.put, List.setIfInBounds_toArray, List.set_cons_zero, List.set_cons_succ, i64_w, i32_w]
               rfl
              refine pure_ (i := 35) (N := some 86) (v := ?_) (a' := ?_) #[true, true, true, true, true, true, true, true, true, true, true, true, true, true, true, true, true, true, true, true, true, true, true, true, true, true, true, true, true, true, true, true, true, true, true, true] rfl rfl (any_of HT_.out (by kernel_rfl)) (fun _ _ _ h => h) (Or.inl ⟨by rfl, ?_⟩) ?_ ?_
              rotate_left
              ·
               intro w'
               go_simp
               with_reducible rfl
              rotate_left
              ·
               simp only [Act.put, List.setIfInBounds_toArray, List.set_cons_zero, List.set_cons_succ, i64_w, i32_w]
               rfl
              refine done_ (done_of HT_.out (by kernel_rfl)) ?_
              have p475 : 0 ≤ (x9_1 : Int) := of_decide_eq_true (by first | (with_reducible assumption) | assumption)
              have q475 : x9_1 < (t453.length : Int) := of_decide_eq_true (by first | (with_reducible assumption) | assumption)
              obtain ⟨ad475, e475, hx475_0⟩ := Kd.at_int (Kd.R_reads' HO_5.out).2.2 x9_1 p475 q475
              obtain rfl : ad463 = ad475 := (by injection e475)
              replace p475 := eq_true p475
              replace q475 := eq_true q475
              try go_wp2_with (first | ((with_reducible refine gate_builtin (b := .append) (xs := #[.tmp 87, .tmp 92]) rfl ?_); at_builtin; refine Kd.R_append (Kd.int .i64) (w0 := w) w.heap.size rfl (.tmp 87) (.tmp 92) 22 3 (.int .i64 0) 8 rfl Try.underlying22 info3 rfl (by decide) (by omega) (.slice Ao45 x7_1.length co45) x7_1 (rd t453 x9_1) [.int .i64 (rd t453 x9_1)] (fun k_ => some k_ ≠ (.slice Ao17 t450.length co17 : Value).ownBlock ∧ some k_ ≠ (.slice (some ad463) t453.length co20 : Value).ownBlock) (fun _ => False) rfl rfl ?aP (fun _ hk => hk.elim) ?aF ?aO ?aB ?aS ?aL ?_; (case aP => exact rfl); (case aB => exact (by repeat (first | (with_reducible first | exact HB.out | apply below_alloc | apply pw_below_drewN | apply below_drew1) | exact HB.out))); (case aF => exact (fun k_ hk => ⟨Kd.fresh' (Kd.R_lt (by (with_reducible repeat (first | apply Kd.R_alloc | apply Kd.R_drewN | apply Kd.R_drew)); exact HO_4.out)) k_ hk, Kd.fresh' (Kd.R_lt (by (with_reducible repeat (first | apply Kd.R_alloc | apply Kd.R_drewN | apply Kd.R_drew)); exact HO_5.out)) k_ hk⟩)); (case aO => exact (by (with_reducible repeat (first | apply Kd.R_alloc | apply Kd.R_drewN | apply Kd.R_drew)); exact HO_7.out)); (case aS => exact (below_size (by repeat (first | (with_reducible first | exact HB.out | apply below_alloc | apply pw_below_drewN | apply below_drew1) | exact HB.out)))); (case aL => have := LMc42.out; omega); intro v477 w46 ho hb hg hat; rw [← Ny476.out] at ho; have n0_ := Aside0.mk (Kd.R_after (ok := (fun k_ => some k_ ≠ (.slice (some ad463) t453.length co20 : Value).ownBlock)) (by (with_reducible repeat (first | apply Kd.R_alloc | apply Kd.R_drewN | apply Kd.R_drew)); exact HO_4.out) hg hat); have n1_ := Aside0.mk (Kd.R_after (ok := (fun k_ => some k_ ≠ (.slice Ao17 t450.length co17 : Value).ownBlock)) (by (with_reducible repeat (first | apply Kd.R_alloc | apply Kd.R_drewN | apply Kd.R_drew)); exact HO_5.out) hg hat); have n2_ := Aside0.mk (hb); have n3_ := Aside0.mk (ho); clear HO_4; clear HO_5; clear HB; clear HO_7; have HO_4 := n0_; have HO_5 := n1_; have HB := n2_; have HO478 := n3_; clear n0_ n1_ n2_ n3_; clear ho hb hg hat))
              go_roundg k1
              case measure => have := HK1.out; omega
              case rel => exact ⟨(y476), (t465), (wrap64 (x9_1 + 1)), (by first | rfl | (simp; done) | (simp [*]; done)), (by first | rfl | (simp; done) | (simp [*]; done)), H', ⟨by have := HK1.out; omega⟩, ⟨by (with_reducible repeat (first | apply Kd.R_alloc | apply Kd.R_drewN | apply Kd.R_drew)); exact HO_4.out⟩, ⟨by (with_reducible repeat (first | apply Kd.R_alloc | apply Kd.R_drewN | apply Kd.R_drew)); exact HO_5.out⟩, ⟨by (with_reducible repeat (first | apply Kd.R_alloc | apply Kd.R_drewN | apply Kd.R_drew)); exact HO478.out⟩, ⟨by repeat (first | (with_reducible first | exact HB.out | apply below_alloc | apply pw_below_drewN | apply below_drew1) | exact HB.out)⟩⟩
             ·
              rw [if_neg c42] at H
              exact absurd H (by simp)
          ·
           rw [if_neg c30] at H
           have c30b0 : decide (0 < x9_1) = false := decide_eq_false c30
           clear c30
           by_cases c47 : x7_1.length < 17592186044416
           ·
            rw [if_pos c47] at H
            have LMc47 := Aside0.mk c47
            clear c47
            obtain ⟨y480, hy480⟩ : ∃ y_ : List Int, y_ = (x7_1 ++ [rd t453 x9_1]) := ⟨_, rfl⟩
            replace H : (laws_FnShareOrder.l0 k1 t449 t450 t453 y480 t465 (wrap64 (x9_1 + 1))) = some r := by first | (rw [hy480]; with_reducible exact H) | (have H2_ := (Option.bind_some _ _).symm.trans H; rw [hy480]; with_reducible exact H2_) | (have H2_ := (Option.bind_some _ _).symm.trans H; with_reducible exact H2_) | with_reducible exact H | (rw [hy480]; exact H) | exact H
            have Ny480 := Aside0.mk hy480
            clear hy480
            have H' := Aside0.mk H
            clear H
            have p463 : 0 ≤ (x9_1 : Int) := of_decide_eq_true (by first | (with_reducible assumption) | assumption)
            have q463 : x9_1 < (t453.length : Int) := of_decide_eq_true (by first | (with_reducible assumption) | assumption)
            obtain ⟨ad463, e463, hx463_0⟩ := Kd.at_int (Kd.R_reads' HO_5.out).2.2 x9_1 p463 q463
            cases e463
            replace p463 := eq_true p463
            replace q463 := eq_true q463
            try go_wp2_with (first | ((with_reducible refine gate_callee (f := 14) rfl ?_); refine goesL_ (some 47) rfl rfl Try.func14 (by kernel_rfl) rfl #[.int .i64 t449, .slice Ao17 t450.length co17, .int .i64 (rd t453 x9_1)] rfl (by (try simp only [List.map_toArray, List.map_cons, List.map_nil]); first | done | rfl | (simp only [List.length_drop, List.length_take]; rfl)) ?_; (with_reducible refine (impl_ShareQuota.calls k1 t449 _ _ t450 (rd t453 x9_1) t464 t465 true _ ?side1 ?side2 A26.out).mono ?_); (case side1 => repeat (first | exact (Kd.R_reads' HO_4.out).2.2 | (with_reducible refine Kd.C_alloc ?_ _) | (with_reducible refine Kd.C_drewN ?_ _) | (with_reducible refine Kd.C_drew ?_))); (case side2 => exact (Kd.R_reads' HO_4.out).2.1); rintro e w48 ⟨rfl, hb⟩; refine ⟨_, rfl, ?_⟩; have n0_ := Aside0.mk (Kd.R_below (by (with_reducible repeat (first | apply Kd.R_alloc | apply Kd.R_drewN | apply Kd.R_drew)); exact HO_4.out) hb); have n1_ := Aside0.mk (Kd.R_below (by (with_reducible repeat (first | apply Kd.R_alloc | apply Kd.R_drewN | apply Kd.R_drew)); exact HO_5.out) hb); have n2_ := Aside0.mk (Kd.R_below (by (with_reducible repeat (first | apply Kd.R_alloc | apply Kd.R_drewN | apply Kd.R_drew)); exact HO_7.out) hb); have n3_ := Aside0.mk (below_step (by repeat (first | (with_reducible first | exact HB.out | apply below_alloc | apply pw_below_drewN | apply below_drew1) | exact HB.out)) hb); clear HO_4; clear HO_5; clear HO_7; clear HB; have HO_4 := n0_; have HO_5 := n1_; have HO_7 := n2_; have HB := n3_; clear n0_ n1_ n2_ n3_; (try clear hb); (try clear hb2); (try clear hk); (try clear hi)))
            have n0_ := Aside0.mk (Kd.R_drew HO_4.out)
            have n1_ := Aside0.mk (Kd.R_drew HO_5.out)
            have n2_ := Aside0.mk (Kd.R_drew HO_7.out)
            have n3_ := Aside0.mk (below_drew1 HB.out)
            clear HO_4
            clear HO_5
            clear HO_7
            clear HB
            have HO_4 := n0_
            have HO_5 := n1_
            have HO_7 := n2_
            have HB := n3_
            clear n0_ n1_ n2_ n3_
            have p467 : 0 ≤ (x9_1 : Int) := of_decide_eq_true (by first | (with_reducible assumption) | assumption)
            have q467 : x9_1 < (t453.length : Int) := of_decide_eq_true (by first | (with_reducible assumption) | assumption)
            obtain ⟨ad467, e467, hx467_0⟩ := Kd.at_int (Kd.R_reads' HO_5.out).2.2 x9_1 p467 q467
            obtain rfl : ad463 = ad467 := (by injection e467)
            replace p467 := eq_true p467
            replace q467 := eq_true q467
            obtain ⟨Ao50, co50, eo50⟩ := Kd.R_slice HO_7.out
            (first | subst eo50 | (injection eo50 with f1_ f2_ f3_; have f4_ := f1_.symm; have f5_ := f3_.symm; clear f1_ f2_ f3_; subst f4_; subst f5_))
            refine start_ (n := 36) (S := fun w' => w'.cell? (ad463.add (x9_1).toNat) = some (.int .i64 (rd t453 x9_1))) (ds := []) #[false, false, false, false, false, false, false, false, false, false, false, false, false, false, false, false, false, false, false, false, false, false, false, false, false, false, false, false, false, false, false, false, false, false, false, false] (by kernel_rfl) rfl rfl (hx467_0) (fun hHeld => ?_); refine with_tabW laws_FnShareOrder.tab16 laws_FnShareOrder.bits16 (fun HT_ HW_ => ?_)
            generalize w48.drew = w49 at HO_4 HO_5 HO_7 HB hx467_0 hHeld ⊢
            refine pure_ (i := 0) (N := some 51) (v := ?_) (a' := ?_) #[true, false, false, false, false, false, false, false, false, false, false, false, false, false, false, false, false, false, false, false, false, false, false, false, false, false, false, false, false, false, false, false, false, false, false, false] rfl rfl (any_of HT_.out (by kernel_rfl)) (fun _ _ _ h => h) (Or.inl ⟨by rfl, ?_⟩) ?_ ?_
            rotate_left
            ·
             intro w'
             go_simp
             with_reducible rfl
            rotate_left
            ·
             simp only [Act.put, List.setIfInBounds_toArray, List.set_cons_zero, List.set_cons_succ, i64_w, i32_w]
             rfl
            refine pure_ (i := 1) (N := some 52) (v := ?_) (a' := ?_) #[true, true, false, false, false, false, false, false, false, false, false, false, false, false, false, false, false, false, false, false, false, false, false, false, false, false, false, false, false, false, false, false, false, false, false, false] rfl rfl (any_of HT_.out (by kernel_rfl)) (fun _ _ _ h => h) (Or.inl ⟨by rfl, ?_⟩) ?_ ?_
            rotate_left
            ·
             intro w'
             go_simp
             with_reducible rfl
            rotate_left
            ·
             simp only [Act.put, List.setIfInBounds_toArray, List.set_cons_zero, List.set_cons_succ, i64_w, i32_w]
             rfl
            refine pure_ (i := 2) (N := some 53) (v := ?_) (a' := ?_) #[true, true, true, false, false, false, false, false, false, false, false, false, false, false, false, false, false, false, false, false, false, false, false, false, false, false, false, false, false, false, false, false, false, false, false, false] rfl rfl (any_of HT_.out (by kernel_rfl)) (fun _ _ _ h => h) (Or.inl ⟨by rfl, ?_⟩) ?_ ?_
            rotate_left
            ·
             intro w'
             go_simp
             with_reducible rfl
            rotate_left
            ·
             simp only [Act.put, List.setIfInBounds_toArray, List.set_cons_zero, List.set_cons_succ, i64_w, i32_w]
             rfl
            refine pure_ (i := 3) (N := some 54) (v := ?_) (a' := ?_) #[true, true, true, true, false, false, false, false, false, false, false, false, false, false, false, false, false, false, false, false, false, false, false, false, false, false, false, false, false, false, false, false, false, false, false, false] rfl rfl (any_of HT_.out (by kernel_rfl)) (fun _ _ _ h => h) (Or.inl ⟨by rfl, ?_⟩) ?_ ?_
            rotate_left
            ·
             intro w'
             go_simp
             with_reducible rfl
            rotate_left
            ·
             simp only [Act.put, List.setIfInBounds_toArray, List.set_cons_zero, List.set_cons_succ, i64_w, i32_w]
             rfl
            refine pure_ (i := 4) (N := some 55) (v := ?_) (a' := ?_) #[true, true, true, true, true, false, false, false, false, false, false, false, false, false, false, false, false, false, false, false, false, false, false, false, false, false, false, false, false, false, false, false, false, false, false, false] rfl rfl (any_of HT_.out (by kernel_rfl)) (fun _ _ _ h => h) (Or.inl ⟨by rfl, ?_⟩) ?_ ?_
            rotate_left
            ·
             intro w'
             go_simp
             with_reducible rfl
            rotate_left
            ·
             simp only [Act.put, List.setIfInBounds_toArray, List.set_cons_zero, List.set_cons_succ, i64_w, i32_w]
             rfl
            refine pure_ (i := 5) (N := some 56) (v := ?_) (a' := ?_) #[true, true, true, true, true, true, false, false, false, false, false, false, false, false, false, false, false, false, false, false, false, false, false, false, false, false, false, false, false, false, false, false, false, false, false, false] rfl rfl (any_of HT_.out (by kernel_rfl)) (fun _ _ _ h => h) (Or.inl ⟨by rfl, ?_⟩) ?_ ?_
            rotate_left
            ·
             intro w'
             go_simp
             with_reducible rfl
            rotate_left
            ·
             simp only [Act.put, List.setIfInBounds_toArray, List.set_cons_zero, List.set_cons_succ, i64_w, i32_w]
             rfl
            refine pure_ (i := 6) (N := some 57) (v := ?_) (a' := ?_) #[true, true, true, true, true, true, true, false, false, false, false, false, false, false, false, false, false, false, false, false, false, false, false, false, false, false, false, false, false, false, false, false, false, false, false, false] rfl rfl (any_of HT_.out (by kernel_rfl)) (fun _ _ _ h => h) (Or.inl ⟨by rfl, ?_⟩) ?_ ?_
            rotate_left
            ·
             intro w'
             go_simp
             with_reducible rfl
            rotate_left
            ·
             simp only [Act.put, List.setIfInBounds_toArray, List.set_cons_zero, List.set_cons_succ, i64_w, i32_w]
             rfl
            refine take_ (i := 7) (N := some 58) (v := ?_) (a' := ?_) #[true, true, true, true, true, true, true, true, false, false, false, false, false, false, false, false, false, false, false, false, false, false, false, false, false, false, false, false, false, false, false, false, false, false, false, false] rfl rfl (take_ofW HT_.out HW_.out (by kernel_rfl)) (fun _ _ _ h => h) (Or.inl ⟨by rfl, ?_⟩) hHeld ?_ ?_
            rotate_left
            ·
             intro w' s0
             go_simp
             with_reducible rfl
            rotate_left
            ·
             simp only [Act.put, List.setIfInBounds_toArray, List.set_cons_zero, List.set_cons_succ, i64_w, i32_w]
             rfl
            refine one_ (i := 8) (N := some 59) #[true, true, true, true, true, true, true, true, true, false, false, false, false, false, false, false, false, false, false, false, false, false, false, false, false, false, false, false, false, false, false, false, false, false, false, false] rfl rfl (one_of HT_.out (by kernel_rfl)) (by decide) (fun K hK => ?_)
            refine goes_ Try.func24 (by kernel_rfl) rfl #[.slice Ao50 x7_1.length co50, .int .i64 (rd t453 x9_1)] (by rfl) rfl rfl (by (try simp only [List.map_toArray, List.map_cons, List.map_nil]); first | done | rfl | (simp only [List.length_drop, List.length_take]; rfl)) ?_
            with_reducible refine (laws_within.calls k1 _ _ x7_1 (rd t453 x9_1) false _ ?side1 ?side2 A28.out).mono ?_
            (case side1 => repeat (first | exact (Kd.R_reads' HO_7.out).2.2 | (with_reducible refine Kd.C_alloc ?_ _) | (with_reducible refine Kd.C_drewN ?_ _) | (with_reducible refine Kd.C_drew ?_)))
            (case side2 => exact (Kd.R_reads' HO_7.out).2.1)
            rintro e w' ⟨rfl, ⟨nd, rfl⟩⟩
            refine ⟨_, rfl, ?_⟩
            refine hK.out _ _ (hHeld) (fun hHeld => ?_)
            clear hK K
            refine norm_ (a' := ?_) ?_ ?_
            rotate_left
            ·
             show Act.put _ (some 59) _ = _
             simp only [Act.put, List.setIfInBounds_toArray, List.set_cons_zero, List.set_cons_succ, i64_w, i32_w]
             rfl
            refine pure_ (i := 9) (N := some 60) (v := ?_) (a' := ?_) #[true, true, true, true, true, true, true, true, true, true, false, false, false, false, false, false, false, false, false, false, false, false, false, false, false, false, false, false, false, false, false, false, false, false, false, false] rfl rfl (any_of HT_.out (by kernel_rfl)) (fun _ _ _ h => h) (Or.inl ⟨by rfl, ?_⟩) ?_ ?_
            rotate_left
            ·
             intro w'
             go_simp
             with_reducible rfl
            rotate_left
            ·
             simp only [Act.put, List.setIfInBounds_toArray, List.set_cons_zero, List.set_cons_succ, i64_w, i32_w]
             rfl
            refine pure_ (i := 10) (N := some 61) (v := ?_) (a' := ?_) #[true, true, true, true, true, true, true, true, true, true, true, false, false, false, false, false, false, false, false, false, false, false, false, false, false, false, false, false, false, false, false, false, false, false, false, false] rfl rfl (any_of HT_.out (by kernel_rfl)) (fun _ _ _ h => h) (Or.inl ⟨by rfl, ?_⟩) ?_ ?_
            rotate_left
            ·
             intro w'
             go_simp
             with_reducible rfl
            rotate_left
            ·
             simp only [Act.put, List.setIfInBounds_toArray, List.set_cons_zero, List.set_cons_succ, i64_w, i32_w]
             rfl
            refine pure_ (i := 11) (N := some 62) (v := ?_) (a' := ?_) #[true, true, true, true, true, true, true, true, true, true, true, true, false, false, false, false, false, false, false, false, false, false, false, false, false, false, false, false, false, false, false, false, false, false, false, false] rfl rfl (any_of HT_.out (by kernel_rfl)) (fun _ _ _ h => h) (Or.inl ⟨by rfl, ?_⟩) ?_ ?_
            rotate_left
            ·
             intro w'
             go_simp
             with_reducible rfl
            rotate_left
            ·
             simp only [Act.put, List.setIfInBounds_toArray, List.set_cons_zero, List.set_cons_succ, i64_w, i32_w]
             rfl
            refine pure_ (i := 12) (N := some 63) (v := ?_) (a' := ?_) #[true, true, true, true, true, true, true, true, true, true, true, true, true, false, false, false, false, false, false, false, false, false, false, false, false, false, false, false, false, false, false, false, false, false, false, false] rfl rfl (any_of HT_.out (by kernel_rfl)) (fun _ _ _ h => h) (Or.inl ⟨by rfl, ?_⟩) ?_ ?_
            rotate_left
            ·
             intro w'
             go_simp
             with_reducible rfl
            rotate_left
            ·
             simp only [Act.put, List.setIfInBounds_toArray, List.set_cons_zero, List.set_cons_succ, i64_w, i32_w]
             rfl
            refine pure_ (i := 13) (N := some 64) (v := ?_) (a' := ?_) #[true, true, true, true, true, true, true, true, true, true, true, true, true, true, false, false, false, false, false, false, false, false, false, false, false, false, false, false, false, false, false, false, false, false, false, false] rfl rfl (any_of HT_.out (by kernel_rfl)) (fun _ _ _ h => h) (Or.inl ⟨by rfl, ?_⟩) ?_ ?_
            rotate_left
            ·
             intro w'
             go_simp
             with_reducible rfl
            rotate_left
            ·
             simp only [Act.put, List.setIfInBounds_toArray, List.set_cons_zero, List.set_cons_succ, i64_w, i32_w]
             rfl
            refine pure_ (i := 14) (N := some 65) (v := undef) (a' := ?_) #[true, true, true, true, true, true, true, true, true, true, true, true, true, true, true, false, false, false, false, false, false, false, false, false, false, false, false, false, false, false, false, false, false, false, false, false] rfl rfl (any_of HT_.out (by kernel_rfl)) (fun _ _ _ h => h) (Or.inr ⟨by rfl, rfl⟩) ?_ ?_
            rotate_left
            ·
             simp only [Act.put, List.setIfInBounds_toArray, List.set_cons_zero, List.set_cons_succ, i64_w, i32_w]
             rfl
            refine pure_ (i := 15) (N := some 66) (v := undef) (a' := ?_) #[true, true, true, true, true, true, true, true, true, true, true, true, true, true, true, true, false, false, false, false, false, false, false, false, false, false, false, false, false, false, false, false, false, false, false, false] rfl rfl (any_of HT_.out (by kernel_rfl)) (fun _ _ _ h => h) (Or.inr ⟨by rfl, rfl⟩) ?_ ?_
            rotate_left
            ·
             simp only [Act.put, List.setIfInBounds_toArray, List.set_cons_zero, List.set_cons_succ, i64_w, i32_w]
             rfl
            refine pure_ (i := 16) (N := some 67) (v := undef) (a' := ?_) #[true, true, true, true, true, true, true, true, true, true, true, true, true, true, true, true, true, false, false, false, false, false, false, false, false, false, false, false, false, false, false, false, false, false, false, false] rfl rfl (any_of HT_.out (by kernel_rfl)) (fun _ _ _ h => h) (Or.inr ⟨by rfl, rfl⟩) ?_ ?_
            rotate_left
            ·
             simp only [Act.put, List.setIfInBounds_toArray, List.set_cons_zero, List.set_cons_succ, i64_w, i32_w]
             rfl
            refine pure_ (i := 17) (N := some 68) (v := undef) (a' := ?_) #[true, true, true, true, true, true, true, true, true, true, true, true, true, true, true, true, true, true, false, false, false, false, false, false, false, false, false, false, false, false, false, false, false, false, false, false] rfl rfl (any_of HT_.out (by kernel_rfl)) (fun _ _ _ h => h) (Or.inr ⟨by rfl, rfl⟩) ?_ ?_
            rotate_left
            ·
             simp only [Act.put, List.setIfInBounds_toArray, List.set_cons_zero, List.set_cons_succ, i64_w, i32_w]
             rfl
            refine pure_ (i := 18) (N := some 69) (v := undef) (a' := ?_) #[true, true, true, true, true, true, true, true, true, true, true, true, true, true, true, true, true, true, true, false, false, false, false, false, false, false, false, false, false, false, false, false, false, false, false, false] rfl rfl (any_of HT_.out (by kernel_rfl)) (fun _ _ _ h => h) (Or.inr ⟨by rfl, rfl⟩) ?_ ?_
            rotate_left
            ·
             simp only [Act.put, List.setIfInBounds_toArray, List.set_cons_zero, List.set_cons_succ, i64_w, i32_w]
             rfl
            refine pure_ (i := 19) (N := some 70) (v := undef) (a' := ?_) #[true, true, true, true, true, true, true, true, true, true, true, true, true, true, true, true, true, true, true, true, false, false, false, false, false, false, false, false, false, false, false, false, false, false, false, false] rfl rfl (any_of HT_.out (by kernel_rfl)) (fun _ _ _ h => h) (Or.inr ⟨by rfl, rfl⟩) ?_ ?_
            rotate_left
            ·
             simp only [Act.put, List.setIfInBounds_toArray, List.set_cons_zero, List.set_cons_succ, i64_w, i32_w]
             rfl
            refine pure_ (i := 20) (N := some 71) (v := undef) (a' := ?_) #[true, true, true, true, true, true, true, true, true, true, true, true, true, true, true, true, true, true, true, true, true, false, false, false, false, false, false, false, false, false, false, false, false, false, false, false] rfl rfl (any_of HT_.out (by kernel_rfl)) (fun _ _ _ h => h) (Or.inr ⟨by rfl, rfl⟩) ?_ ?_
            rotate_left
            ·
             simp only [Act.put, List.setIfInBounds_toArray, List.set_cons_zero, List.set_cons_succ, i64_w, i32_w]
             rfl
            refine pure_ (i := 21) (N := some 72) (v := undef) (a' := ?_) #[true, true, true, true, true, true, true, true, true, true, true, true, true, true, true, true, true, true, true, true, true, true, false, false, false, false, false, false, false, false, false, false, false, false, false, false] rfl rfl (any_of HT_.out (by kernel_rfl)) (fun _ _ _ h => h) (Or.inr ⟨by rfl, rfl⟩) ?_ ?_
            rotate_left
            ·
             simp only [Act.put, List.setIfInBounds_toArray, List.set_cons_zero, List.set_cons_succ, i64_w, i32_w]
             rfl
            refine pure_ (i := 22) (N := some 73) (v := undef) (a' := ?_) #[true, true, true, true, true, true, true, true, true, true, true, true, true, true, true, true, true, true, true, true, true, true, true, false, false, false, false, false, false, false, false, false, false, false, false, false] rfl rfl (any_of HT_.out (by kernel_rfl)) (fun _ _ _ h => h) (Or.inr ⟨by rfl, rfl⟩) ?_ ?_
            rotate_left
            ·
             simp only [Act.put, List.setIfInBounds_toArray, List.set_cons_zero, List.set_cons_succ, i64_w, i32_w]
             rfl
            refine pure_ (i := 23) (N := some 74) (v := undef) (a' := ?_) #[true, true, true, true, true, true, true, true, true, true, true, true, true, true, true, true, true, true, true, true, true, true, true, true, false, false, false, false, false, false, false, false, false, false, false, false] rfl rfl (any_of HT_.out (by kernel_rfl)) (fun _ _ _ h => h) (Or.inr ⟨by rfl, rfl⟩) ?_ ?_
            rotate_left
            ·
             simp only [Act.put, List.setIfInBounds_toArray, List.set_cons_zero, List.set_cons_succ, i64_w, i32_w]
             rfl
            refine pure_ (i := 24) (N := some 75) (v := undef) (a' := ?_) #[true, true, true, true, true, true, true, true, true, true, true, true, true, true, true, true, true, true, true, true, true, true, true, true, true, false, false, false, false, false, false, false, false, false, false, false] rfl rfl (any_of HT_.out (by kernel_rfl)) (fun _ _ _ h => h) (Or.inr ⟨by rfl, rfl⟩) ?_ ?_
            rotate_left
            ·
             simp only [Act.put, List.setIfInBounds_toArray, List.set_cons_zero, List.set_cons_succ, i64_w, i32_w]
             rfl
            refine pure_ (i := 25) (N := some 76) (v := undef) (a' := ?_) #[true, true, true, true, true, true, true, true, true, true, true, true, true, true, true, true, true, true, true, true, true, true, true, true, true, true, false, false, false, false, false, false, false, false, false, false] rfl rfl (any_of HT_.out (by kernel_rfl)) (fun _ _ _ h => h) (Or.inr ⟨by rfl, rfl⟩) ?_ ?_
            rotate_left
            ·
             simp only [Act.put, List.setIfInBounds_toArray, List.set_cons_zero, List.set_cons_succ, i64_w, i32_w]
             rfl
            refine pure_ (i := 26) (N := some 77) (v := undef) (a' := ?_) #[true, true, true, true, true, true, true, true, true, true, true, true, true, true, true, true, true, true, true, true, true, true, true, true, true, true, true, false, false, false, false, false, false, false, false, false] rfl rfl (any_of HT_.out (by kernel_rfl)) (fun _ _ _ h => h) (Or.inr ⟨by rfl, rfl⟩) ?_ ?_
            rotate_left
            ·
             simp only [Act.put, List.setIfInBounds_toArray, List.set_cons_zero, List.set_cons_succ, i64_w, i32_w]
             rfl
            refine pure_ (i := 27) (N := some 78) (v := undef) (a' := ?_) #[true, true, true, true, true, true, true, true, true, true, true, true, true, true, true, true, true, true, true, true, true, true, true, true, true, true, true, true, false, false, false, false, false, false, false, false] rfl rfl (any_of HT_.out (by kernel_rfl)) (fun _ _ _ h => h) (Or.inr ⟨by rfl, rfl⟩) ?_ ?_
            rotate_left
            ·
             simp only [Act.put, List.setIfInBounds_toArray, List.set_cons_zero, List.set_cons_succ, i64_w, i32_w]
             rfl
            refine pure_ (i := 28) (N := some 79) (v := undef) (a' := ?_) #[true, true, true, true, true, true, true, true, true, true, true, true, true, true, true, true, true, true, true, true, true, true, true, true, true, true, true, true, true, false, false, false, false, false, false, false] rfl rfl (any_of HT_.out (by kernel_rfl)) (fun _ _ _ h => h) (Or.inr ⟨by rfl, rfl⟩) ?_ ?_
            rotate_left
            ·
             simp only [Act.put, List.setIfInBounds_toArray, List.set_cons_zero, List.set_cons_succ, i64_w, i32_w]
             rfl
            refine pure_ (i := 29) (N := some 80) (v := undef) (a' := ?_) #[true, true, true, true, true, true, true, true, true, true, true, true, true, true, true, true, true, true, true, true, true, true, true, true, true, true, true, true, true, true, false, false, false, false, false, false] rfl rfl (any_of HT_.out (by kernel_rfl)) (fun _ _ _ h => h) (Or.inr ⟨by rfl, rfl⟩) ?_ ?_
            rotate_left
            ·
             simp only [Act.put, List.setIfInBounds_toArray, List.set_cons_zero, List.set_cons_succ, i64_w, i32_w]
             rfl
            refine pure_ (i := 30) (N := some 81) (v := undef) (a' := ?_) #[true, true, true, true, true, true, true, true, true, true, true, true, true, true, true, true, true, true, true, true, true, true, true, true, true, true, true, true, true, true, true, false, false, false, false, false] rfl rfl (any_of HT_.out (by kernel_rfl)) (fun _ _ _ h => h) (Or.inr ⟨by rfl, rfl⟩) ?_ ?_
            rotate_left
            ·
             simp only [Act.put, List.setIfInBounds_toArray, List.set_cons_zero, List.set_cons_succ, i64_w, i32_w]
             rfl
            refine pure_ (i := 31) (N := some 82) (v := undef) (a' := ?_) #[true, true, true, true, true, true, true, true, true, true, true, true, true, true, true, true, true, true, true, true, true, true, true, true, true, true, true, true, true, true, true, true, false, false, false, false] rfl rfl (any_of HT_.out (by kernel_rfl)) (fun _ _ _ h => h) (Or.inr ⟨by rfl, rfl⟩) ?_ ?_
            rotate_left
            ·
             simp only [Act.put, List.setIfInBounds_toArray, List.set_cons_zero, List.set_cons_succ, i64_w, i32_w]
             rfl
            refine pure_ (i := 32) (N := some 83) (v := undef) (a' := ?_) #[true, true, true, true, true, true, true, true, true, true, true, true, true, true, true, true, true, true, true, true, true, true, true, true, true, true, true, true, true, true, true, true, true, false, false, false] rfl rfl (any_of HT_.out (by kernel_rfl)) (fun _ _ _ h => h) (Or.inr ⟨by rfl, rfl⟩) ?_ ?_
            rotate_left
            ·
             simp only [Act.put, List.setIfInBounds_toArray, List.set_cons_zero, List.set_cons_succ, i64_w, i32_w]
             rfl
            refine pure_ (i := 33) (N := some 84) (v := undef) (a' := ?_) #[true, true, true, true, true, true, true, true, true, true, true, true, true, true, true, true, true, true, true, true, true, true, true, true, true, true, true, true, true, true, true, true, true, true, false, false] rfl rfl (any_of HT_.out (by kernel_rfl)) (fun _ _ _ h => h) (Or.inr ⟨by rfl, rfl⟩) ?_ ?_
            rotate_left
            ·
             simp only [Act.put, List.setIfInBounds_toArray, List.set_cons_zero, List.set_cons_succ, i64_w, i32_w]
             rfl
            refine pure_ (i := 34) (N := some 85) (v := ?_) (a' := ?_) #[true, true, true, true, true, true, true, true, true, true, true, true, true, true, true, true, true, true, true, true, true, true, true, true, true, true, true, true, true, true, true, true, true, true, true, false] rfl rfl (any_of HT_.out (by kernel_rfl)) (fun _ _ _ h => h) (Or.inl ⟨by rfl, ?_⟩) ?_ ?_
            rotate_left
            ·
             intro w'
             go_simp
             with_reducible rfl
            rotate_left
            ·
             simp only [Act.put, List.setIfInBounds_toArray, List.set_cons_zero, List.set_cons_succ, i64_w, i32_w]
             rfl
            refine pure_ (i := 35) (N := some 86) (v := ?_) (a' := ?_) #[true, true, true, true, true, true, true, true, true, true, true, true, true, true, true, true, true, true, true, true, true, true, true, true, true, true, true, true, true, true, true, true, true, true, true, true] rfl rfl (any_of HT_.out (by kernel_rfl)) (fun _ _ _ h => h) (Or.inl ⟨by rfl, ?_⟩) ?_ ?_
            rotate_left
            ·
             intro w'
             go_simp
             with_reducible rfl
            rotate_left
            ·
             simp only [Act.put, List.setIfInBounds_toArray, List.set_cons_zero, List.set_cons_succ, i64_w, i32_w]
             rfl
            refine done_ (done_of HT_.out (by kernel_rfl)) ?_
            have p479 : 0 ≤ (x9_1 : Int) := of_decide_eq_true (by first | (with_reducible assumption) | assumption)
            have q479 : x9_1 < (t453.length : Int) := of_decide_eq_true (by first | (with_reducible assumption) | assumption)
            obtain ⟨ad479, e479, hx479_0⟩ := Kd.at_int (Kd.R_reads' HO_5.out).2.2 x9_1 p479 q479
            obtain rfl : ad463 = ad479 := (by injection e479)
            replace p479 := eq_true p479
            replace q479 := eq_true q479
            try go_wp2_with (first | ((with_reducible refine gate_builtin (b := .append) (xs := #[.tmp 87, .tmp 92]) rfl ?_); at_builtin; refine Kd.R_append (Kd.int .i64) (w0 := w) w.heap.size rfl (.tmp 87) (.tmp 92) 22 3 (.int .i64 0) 8 rfl Try.underlying22 info3 rfl (by decide) (by omega) (.slice Ao50 x7_1.length co50) x7_1 (rd t453 x9_1) [.int .i64 (rd t453 x9_1)] (fun k_ => some k_ ≠ (.slice Ao17 t450.length co17 : Value).ownBlock ∧ some k_ ≠ (.slice (some ad463) t453.length co20 : Value).ownBlock) (fun _ => False) rfl rfl ?aP (fun _ hk => hk.elim) ?aF ?aO ?aB ?aS ?aL ?_; (case aP => exact rfl); (case aB => exact (by repeat (first | (with_reducible first | exact HB.out | apply below_alloc | apply pw_below_drewN | apply below_drew1) | exact HB.out))); (case aF => exact (fun k_ hk => ⟨Kd.fresh' (Kd.R_lt (by (with_reducible repeat (first | apply Kd.R_alloc | apply Kd.R_drewN | apply Kd.R_drew)); exact HO_4.out)) k_ hk, Kd.fresh' (Kd.R_lt (by (with_reducible repeat (first | apply Kd.R_alloc | apply Kd.R_drewN | apply Kd.R_drew)); exact HO_5.out)) k_ hk⟩)); (case aO => exact (by (with_reducible repeat (first | apply Kd.R_alloc | apply Kd.R_drewN | apply Kd.R_drew)); exact HO_7.out)); (case aS => exact (below_size (by repeat (first | (with_reducible first | exact HB.out | apply below_alloc | apply pw_below_drewN | apply below_drew1) | exact HB.out)))); (case aL => have := LMc47.out; omega); intro v481 w51 ho hb hg hat; rw [← Ny480.out] at ho; have n0_ := Aside0.mk (Kd.R_after (ok := (fun k_ => some k_ ≠ (.slice (some ad463) t453.length co20 : Value).ownBlock)) (by (with_reducible repeat (first | apply Kd.R_alloc | apply Kd.R_drewN | apply Kd.R_drew)); exact HO_4.out) hg hat); have n1_ := Aside0.mk (Kd.R_after (ok := (fun k_ => some k_ ≠ (.slice Ao17 t450.length co17 : Value).ownBlock)) (by (with_reducible repeat (first | apply Kd.R_alloc | apply Kd.R_drewN | apply Kd.R_drew)); exact HO_5.out) hg hat); have n2_ := Aside0.mk (hb); have n3_ := Aside0.mk (ho); clear HO_4; clear HO_5; clear HB; clear HO_7; have HO_4 := n0_; have HO_5 := n1_; have HB := n2_; have HO482 := n3_; clear n0_ n1_ n2_ n3_; clear ho hb hg hat))
            go_roundg k1
            case measure => have := HK1.out; omega
            case rel => exact ⟨(y480), (t465), (wrap64 (x9_1 + 1)), (by first | rfl | (simp; done) | (simp [*]; done)), (by first | rfl | (simp; done) | (simp [*]; done)), H', ⟨by have := HK1.out; omega⟩, ⟨by (with_reducible repeat (first | apply Kd.R_alloc | apply Kd.R_drewN | apply Kd.R_drew)); exact HO_4.out⟩, ⟨by (with_reducible repeat (first | apply Kd.R_alloc | apply Kd.R_drewN | apply Kd.R_drew)); exact HO_5.out⟩, ⟨by (with_reducible repeat (first | apply Kd.R_alloc | apply Kd.R_drewN | apply Kd.R_drew)); exact HO482.out⟩, ⟨by repeat (first | (with_reducible first | exact HB.out | apply below_alloc | apply pw_below_drewN | apply below_drew1) | exact HB.out)⟩⟩
           ·
            rw [if_neg c47] at H
            exact absurd H (by simp)
        ·
         replace c27 := Bool.eq_false_iff.mpr c27
         subst c27
         have H1 : (none) = some r := by rw [if_neg (show ¬ (false = true) by decide)] at H; exact H
         clear H
         have H := H1
         clear H1
         exact absurd H (by simp)
       ·
        rw [if_neg c25] at H
        exact absurd H (by simp)
      ·
       rw [if_neg c24] at H
       have c24b0 : decide (x9_1 < (t453.length : Int)) = false := decide_eq_false c24
       clear c24
       obtain rfl := Option.some.inj H
       go_wp2
       go_ret
       exact ⟨by first | rfl | (simp [errW_none, errW_some] <;> rfl) | (simp [*, errW_none, errW_some] <;> rfl), by repeat (first | (with_reducible first | exact HB.out | apply below_alloc | apply pw_below_drewN | apply below_drew1) | exact HB.out)⟩
  ·
   replace c8 := Bool.eq_false_iff.mpr c8
   subst c8
   have H1 : (none) = some r := by rw [if_neg (show ¬ (false = true) by decide)] at H; exact H
   clear H
   have H := H1
   clear H1
   exact absurd H (by simp)
def laws_FnShareOrder.Pure : Prop := ∀ (l0 : List Int), l0.length ≤ maxLen → l0.length * 1 ≤ 140737488351232 → (∀ x ∈ l0, (Lit.int .u8 x).wf = true) → ∃ k, laws_FnShareOrder.f k l0 = some true
theorem laws_FnShareOrder.walk (P : laws_FnShareOrder.Pure) (a0 : Option Addr) (len0 cap0 : Nat) (z0 : List Int) (w : World) (w0 : (a0 = none ∧ len0 = 0 ∧ cap0 = 0 ∧ z0 = []) ∨ ∃ x, a0 = some x ∧ len0 ≤ cap0 ∧ cap0 ≤ maxLen ∧ z0.length = cap0 ∧ (∀ i, i < z0.length → w.cell? (x.add i) = some (.int .u8 (z0.getD i 0))) ∧ ∀ n ∈ z0, (Lit.int .u8 n).wf = true) (y0 : len0 * 1 ≤ 140737488351232) :
 Calls Try.prog 7 #[.slice a0 len0 cap0] w fun e w' => e = .returned (.bool true) ∧ Below w.heap.size w w' := by
 obtain ⟨l0, rfl, hr0, hm0, hw0, hc0⟩ := ReadsInt.ofRowC w0
 obtain ⟨k, h⟩ := P l0 hm0 y0 hw0
 refine (laws_FnShareOrder.calls k _ _ l0 true w (Kd.C_of_reads (d := (0 : Int)) (h1 := fun _ => rfl) hr0) hc0 h).mono ?_
 rintro e w' ⟨rfl, hd⟩
 exact ⟨rfl, hd⟩
end Go.Proofs.Ytpnejhelandclaa.P
namespace Go.Proofs.Ytpnejhelandclaa.EV
open Go Go.RowKit Go.Proofs.YtpnejhelandclaaW.PrintWords
theorem w64_in (n : Int) (h0 : -9223372036854775808 ≤ n) (h1 : n ≤ 9223372036854775807) : wrap64 n = n := by unfold wrap64; omega
theorem w_succ {i n : Nat} (h : i < n) (hn : n ≤ 9223372036854775807) : wrap64 ((i : Int) + 1) = ((i + 1 : Nat) : Int) := by unfold wrap64; omega
theorem Ev_one {α : Type} {g : Nat → Option α} {r : α} (h : ∀ k, g (k + 1) = some r) : Ev g r := ⟨1, fun k hk => by
  obtain ⟨k, rfl⟩ : ∃ m, k = m + 1 := ⟨k - 1, by omega⟩
  exact h k⟩
theorem Ev_all_k {α : Type} {g : Nat → Option α} {r : α} (h : ∀ k, g k = some r) : Ev g r := ⟨0, fun k _ => h k⟩
theorem Ev_bind {α β : Type} {g : Nat → Option α} {f : Nat → α → Option β} {a : α} {r : β} (h : Ev g a) (k : Ev (fun n => f n a) r) : Ev (fun n => (g n).bind (f n)) r := Ev.bind h k
theorem Ev_asks (l : Nat → Int → Option Bool) (n : Nat) (G : Nat → Prop) (fin : Bool) (h0 : Ev (fun k => l k (n : Int)) fin)
    (hs : ∀ i : Nat, i < n → (G i ∧ ∀ k, l (k + 1) (i : Int) = l k ((i + 1 : Nat) : Int)) ∨ (¬ G i ∧ ∀ k, l (k + 1) (i : Int) = some false)) :
    ∀ (d i : Nat), n - i = d → i ≤ n → ∃ r, Ev (fun k => l k (i : Int)) r ∧ (r = true ↔ (∀ j, i ≤ j → j < n → G j) ∧ fin = true) := by
  intro d
  induction d with
  | zero =>
    intro i hd hi
    obtain rfl : i = n := by omega
    exact ⟨fin, h0, ⟨fun h => ⟨fun j h1 h2 => by omega, h⟩, fun h => h.2⟩⟩
  | succ d ih =>
    intro i hd hi
    rcases hs i (by omega) with ⟨hg, he⟩ | ⟨hg, he⟩
    · obtain ⟨r, hr, hiff⟩ := ih (i + 1) (by omega) (by omega)
      refine ⟨r, Ev.step he hr, ?_⟩
      rw [hiff]
      constructor
      · rintro ⟨h1, h2⟩
        refine ⟨fun j h3 h4 => ?_, h2⟩
        rcases Nat.eq_or_lt_of_le h3 with h5 | h5
        · exact h5 ▸ hg
        · exact h1 j h5 h4
      · rintro ⟨h1, h2⟩
        exact ⟨fun j h3 h4 => h1 j (by omega) h4, h2⟩
    · refine ⟨false, Ev_one he, ⟨fun h => Bool.noConfusion h, fun h => absurd (h.1 i (Nat.le_refl _) (by omega)) hg⟩⟩
theorem Ev_goes {σ ρ : Type} (l : Nat → σ → Int → Option ρ) (n : Nat) (F : Nat → σ → ρ) (Inv : Nat → σ → Prop)
    (h0 : ∀ s, Inv n s → Ev (fun k => l k s (n : Int)) (F n s))
    (hs : ∀ (i : Nat) s, i < n → Inv i s → (Ev (fun k => l k s (i : Int)) (F i s)) ∨ ∃ s', Inv (i + 1) s' ∧ F (i + 1) s' = F i s ∧ ∀ k, l (k + 1) s (i : Int) = l k s' ((i + 1 : Nat) : Int)) :
    ∀ (d i : Nat) s, n - i = d → i ≤ n → Inv i s → Ev (fun k => l k s (i : Int)) (F i s) := by
  intro d
  induction d with
  | zero =>
    intro i s hd hi hinv
    obtain rfl : i = n := by omega
    exact h0 s hinv
  | succ d ih =>
    intro i s hd hi hinv
    rcases hs i s (by omega) hinv with h | ⟨s', h1, h2, h3⟩
    · exact h
    · exact h2 ▸ Ev.step h3 (ih (i + 1) s' (by omega) (by omega) h1)
theorem drop_getD {α : Type} (z : α) (l : List α) (i : Nat) (h : i < l.length) : l.drop i = l.getD i z :: l.drop (i + 1) := by
  rw [List.drop_eq_getElem_cons h, List.getD_eq_getElem?_getD, List.getElem?_eq_getElem h]
  rfl
end Go.Proofs.Ytpnejhelandclaa.EV
namespace Go.Proofs.Ytpnejhelandclaa.I1
open Go Go.RowKit Go.Proofs.Ytpnejhelandclaa.P Go.Proofs.YtpnejhelandclaaW.PrintWords Go.Proofs.YtpnejhelandclaaW.PrintLast
theorem in_i (a lo hi : Int) : impl_in.f a lo hi = some (decide (lo ≤ a ∧ a ≤ hi)) := by
  unfold impl_in.f
  by_cases h : a ≥ lo
  · rw [if_pos h]
    congr 1
    rw [Bool.eq_iff_iff, decide_eq_true_iff, decide_eq_true_iff]
    omega
  · rw [if_neg h]
    congr 1
    symm
    rw [decide_eq_false_iff_not]
    omega
theorem in_s (a lo hi : Int) : spec_l1In.f a lo hi = some (decide (lo ≤ a ∧ a ≤ hi)) := by
  unfold spec_l1In.f
  by_cases h : a ≥ lo
  · rw [if_pos h]
    congr 1
    rw [Bool.eq_iff_iff, decide_eq_true_iff, decide_eq_true_iff]
    omega
  · rw [if_neg h]
    congr 1
    symm
    rw [decide_eq_false_iff_not]
    omega
end Go.Proofs.Ytpnejhelandclaa.I1
namespace Go.Proofs.Ytpnejhelandclaa.TI
open Go Go.RowKit Go.Proofs.Ytpnejhelandclaa.P Go.Proofs.YtpnejhelandclaaW.PrintWords Go.Proofs.YtpnejhelandclaaW.PrintLast Go.Proofs.Ytpnejhelandclaa.EV
theorem rdi (l : List Int) (i : Nat) : rd l (i : Int) = l.getD i 0 := by unfold rd; rw [Int.toNat_natCast]
end Go.Proofs.Ytpnejhelandclaa.TI
namespace Go.Proofs.Ytpnejhelandclaa.W1
open Go Go.RowKit Go.Proofs.Ytpnejhelandclaa.P Go.Proofs.YtpnejhelandclaaW.PrintWords Go.Proofs.YtpnejhelandclaaW.PrintLast Go.Proofs.Ytpnejhelandclaa.EV Go.Proofs.Ytpnejhelandclaa.I1 Go.Proofs.Ytpnejhelandclaa.TI
theorem some_s1 (a least : Int) : spec_l1Some.f a least = some (decide (least ≤ a ∧ a ≤ 1000000000000000)) := by unfold spec_l1Some.f; rw [in_s]; rfl
def Few (l : List Int) : Prop := l.length ≤ 40 ∧ ∀ x ∈ l, 0 ≤ x ∧ x ≤ 1000000000000000
theorem Few.at {l : List Int} (h : Few l) (i : Nat) (hi : i < l.length) : 0 ≤ l.getD i 0 ∧ l.getD i 0 ≤ 1000000000000000 := by
  have : l.getD i 0 = l[i] := by rw [List.getD_eq_getElem?_getD, List.getElem?_eq_getElem hi]; rfl
  rw [this]
  exact h.2 _ (List.getElem_mem hi)
theorem sum_bound (l : List Int) (h : ∀ x ∈ l, 0 ≤ x ∧ x ≤ 1000000000000000) : 0 ≤ l.sum ∧ l.sum ≤ 1000000000000000 * l.length := by
  induction l with
  | nil => simp
  | cons x l ih =>
    have h1 := ih fun y hy => h y (List.mem_cons_of_mem _ hy)
    have h2 := h x (List.mem_cons_self ..)
    rw [List.sum_cons, List.length_cons]
    omega
theorem drop_bound {l : List Int} (h : Few l) (i : Nat) : 0 ≤ (l.drop i).sum ∧ (l.drop i).sum ≤ 40000000000000000 := by
  have h1 := sum_bound (l.drop i) fun x hx => h.2 x (List.mem_of_mem_drop hx)
  rw [List.length_drop] at h1
  have := h.1
  omega
theorem drop_sum (l : List Int) (i : Nat) (hi : i < l.length) : (l.drop i).sum = l.getD i 0 + (l.drop (i + 1)).sum := by rw [drop_getD 0 l i hi, List.sum_cons]
theorem all_s {l : List Int} (h : Few l) : Ev (fun k => spec_l2All.f k l) l.sum := by
  unfold spec_l2All.f
  have h2 := h.1
  have h' := Ev_goes (fun k s i => spec_l2All.l0 k l s i) l.length (fun i s => s + (l.drop i).sum) (fun i s => 0 ≤ s ∧ s + (l.drop i).sum = l.sum)
    (fun s hs => Ev_one fun k => by
      simp only [spec_l2All.l0]
      rw [if_neg (by omega), List.drop_length, List.sum_nil, Int.add_zero])
    (fun i s hi hs => .inr ⟨s + l.getD i 0, by
        have h3 := h.at i hi
        have h4 := drop_sum l i hi
        omega, by rw [drop_sum l i hi]; omega, fun k => by
        show spec_l2All.l0 (k + 1) l s (i : Int) = _
        simp only [spec_l2All.l0]
        have h3 := h.at i hi
        have h4 := drop_sum l i hi
        have h5 := drop_bound h (i + 1)
        have h6 := drop_bound h 0
        rw [List.drop_zero] at h6
        rw [if_pos (by omega), if_pos (by omega), w_succ hi (by omega), rdi, w64_in _ (by omega) (by omega)]⟩) l.length 0 0 (by omega) (by omega) (by rw [List.drop_zero]; omega)
  rw [List.drop_zero, Int.zero_add] at h'
  exact h'
theorem all_i {l : List Int} (h : Few l) : Ev (fun k => impl_sumOf.f k l) l.sum := by
  unfold impl_sumOf.f
  have h2 := h.1
  have h' := Ev_goes (fun k s i => impl_sumOf.l0 k s l (l.length : Int) i) l.length (fun i s => s + (l.drop i).sum) (fun i s => 0 ≤ s ∧ s + (l.drop i).sum = l.sum)
    (fun s hs => Ev_one fun k => by
      simp only [impl_sumOf.l0]
      rw [if_neg (by omega), List.drop_length, List.sum_nil, Int.add_zero])
    (fun i s hi hs => .inr ⟨s + l.getD i 0, by
        have h3 := h.at i hi
        have h4 := drop_sum l i hi
        omega, by rw [drop_sum l i hi]; omega, fun k => by
        show impl_sumOf.l0 (k + 1) s l (l.length : Int) (i : Int) = _
        simp only [impl_sumOf.l0]
        have h3 := h.at i hi
        have h4 := drop_sum l i hi
        have h5 := drop_bound h (i + 1)
        have h6 := drop_bound h 0
        rw [List.drop_zero] at h6
        rw [if_pos (by omega), if_pos (by omega), if_pos (by omega), w_succ hi (by omega), rdi, w64_in _ (by omega) (by omega)]⟩) l.length 0 0 (by omega) (by omega) (by rw [List.drop_zero]; omega)
  rw [List.drop_zero, Int.zero_add] at h'
  exact h'
def OkW (l : List Int) : Prop := (1 ≤ (l.length : Int) ∧ (l.length : Int) ≤ 40 ∧ (∀ x ∈ l, 0 ≤ x ∧ x ≤ 1000000000000000)) ∧ 1 ≤ l.sum ∧ l.sum ≤ 1000000000000000
noncomputable def okW (l : List Int) : Bool := @decide (OkW l) (Classical.propDecidable _)
theorem okW_iff (l : List Int) : okW l = true ↔ OkW l := by unfold okW; exact @decide_eq_true_iff _ (Classical.propDecidable _)
theorem OkW.few {l : List Int} (h : OkW l) : Few l := ⟨by have := h.1.2.1; omega, h.1.2.2⟩
theorem okW_no {l : List Int} (h : ¬ OkW l) : okW l = false := by rw [Bool.eq_false_iff, Ne, okW_iff]; exact h
theorem okW_sum {l : List Int} (h : 1 ≤ (l.length : Int) ∧ (l.length : Int) ≤ 40 ∧ (∀ x ∈ l, 0 ≤ x ∧ x ≤ 1000000000000000)) : decide (1 ≤ l.sum ∧ l.sum ≤ 1000000000000000) = okW l := by
  rw [Bool.eq_iff_iff, okW_iff, decide_eq_true_iff]
  exact ⟨fun g => ⟨h, g⟩, fun g => g.2⟩
theorem weightsOk_i (l : List Int) : Ev (fun k => impl_WeightsOk.f k l) (okW l) := by
  unfold impl_WeightsOk.f
  by_cases h : 1 ≤ (l.length : Int) ∧ (l.length : Int) ≤ 40 ∧ (∀ x ∈ l, 0 ≤ x ∧ x ≤ 1000000000000000)
  · refine Ev.congr (fun k => by rw [if_pos h]) (Ev_bind (all_i ⟨by omega, h.2.2⟩) (Ev_all_k fun k => ?_))
    rw [okW_sum h]
  · rw [okW_no fun g => h g.1]
    exact Ev_all_k fun k => by rw [if_neg h]
theorem weightsOk_s (l : List Int) : Ev (fun k => spec_WeightsOk.f k l) (okW l) := by
  unfold spec_WeightsOk.f
  by_cases hn : 1 ≤ (l.length : Int) ∧ (l.length : Int) ≤ 40
  · refine Ev.congr (f := fun k => spec_WeightsOk.l0 k l 0) (fun k => by rw [in_s, decide_eq_true hn, Option.bind_some, if_pos rfl]) ?_
    by_cases hall : ∀ x ∈ l, 0 ≤ x ∧ x ≤ 1000000000000000
    · obtain ⟨r, hr, hiff⟩ := Ev_asks (fun k i => spec_WeightsOk.l0 k l i) l.length (fun j => 0 ≤ l.getD j 0 ∧ l.getD j 0 ≤ 1000000000000000) (okW l)
        (Ev.step (f := fun k => (spec_l2All.f k l).bind fun t106 => ((spec_l1Some.f t106 1).bind fun t107 => (some t107))) (fun k => by simp only [spec_WeightsOk.l0]; rw [if_neg (by omega)])
          (Ev_bind (all_s ⟨by omega, hall⟩) (Ev_all_k fun k => by rw [some_s1, Option.bind_some, okW_sum ⟨hn.1, hn.2, hall⟩])))
        (fun i hi => .inl ⟨Few.at ⟨by omega, hall⟩ i hi, fun k => by
          show spec_WeightsOk.l0 (k + 1) l (i : Int) = _
          simp only [spec_WeightsOk.l0]
          rw [if_pos (by omega), if_pos (by omega), w_succ hi (by omega), rdi, some_s1, Option.bind_some, decide_eq_true (Few.at ⟨by omega, hall⟩ i hi), if_pos rfl]⟩) l.length 0 (by omega) (by omega)
      have : r = okW l := by
        rw [Bool.eq_iff_iff, hiff]
        exact ⟨fun g => g.2, fun g => ⟨fun j _ hj => Few.at ⟨by omega, hall⟩ j hj, g⟩⟩
      exact this ▸ hr
    · rw [okW_no fun g => hall g.1.2.2]
      -- the first that is out of bounds
      have hbad : ∃ j, j < l.length ∧ ¬ (0 ≤ l.getD j 0 ∧ l.getD j 0 ≤ 1000000000000000) := by
        apply Classical.byContradiction
        intro hno
        apply hall
        intro x hx
        obtain ⟨j, hj, rfl⟩ := List.getElem_of_mem hx
        have e : l.getD j 0 = l[j] := by rw [List.getD_eq_getElem?_getD, List.getElem?_eq_getElem hj]; rfl
        apply Classical.byContradiction
        intro hq
        exact hno ⟨j, hj, by rw [e]; exact hq⟩
      obtain ⟨j, hj, hb⟩ := hbad
      have key : ∀ (d i : Nat), j - i = d → i ≤ j → Ev (fun k => spec_WeightsOk.l0 k l (i : Int)) false := by
        intro d
        induction d with
        | zero =>
          intro i hd hi
          obtain rfl : i = j := by omega
          exact Ev_one fun k => by
            simp only [spec_WeightsOk.l0]
            rw [if_pos (by omega), if_pos (by omega), rdi, some_s1, Option.bind_some, decide_eq_false hb, if_neg (by decide)]
        | succ d ih =>
          intro i hd hi
          by_cases hg : 0 ≤ l.getD i 0 ∧ l.getD i 0 ≤ 1000000000000000
          · refine Ev.step (f := fun k => spec_WeightsOk.l0 k l ((i + 1 : Nat) : Int)) (fun k => ?_) (ih (i + 1) (by omega) (by omega))
            simp only [spec_WeightsOk.l0]
            rw [if_pos (by omega), if_pos (by omega), w_succ (by omega : i < l.length) (by omega), rdi, some_s1, Option.bind_some, decide_eq_true hg, if_pos rfl]
          · exact Ev_one fun k => by
              simp only [spec_WeightsOk.l0]
              rw [if_pos (by omega), if_pos (by omega), rdi, some_s1, Option.bind_some, decide_eq_false hg, if_neg (by decide)]
      exact key j 0 (by omega) (by omega)
  · rw [okW_no fun g => hn ⟨g.1.1, g.1.2.1⟩]
    exact Ev_all_k fun k => by rw [in_s, decide_eq_false hn, Option.bind_some, if_neg (by decide)]
end Go.Proofs.Ytpnejhelandclaa.W1
namespace Go.Proofs.Ytpnejhelandclaa.L1
open Go Go.RowKit
theorem u64w (n : Int) : IntKind.u64.wrap n = n % 18446744073709551616 := by simp [IntKind.wrap, IntKind.bits, IntKind.signed]
theorem u64w_id (n : Int) (h0 : 0 ≤ n) (h1 : n < 18446744073709551616) : IntKind.u64.wrap n = n := by rw [u64w]; omega
theorem wraps_u64 (n : Int) (h₀ : 0 ≤ n) (h₁ : n < 2 ^ 64) : IntKind.u64.wrap n = n := u64w_id n h₀ (by simpa using h₁)
theorem and32 (x : Int) (h0 : 0 ≤ x) (h1 : x < 18446744073709551616) : Go.bits .and .u64 x 4294967295 = x % 4294967296 :=
  bits_mask .u64 64 (by decide) wraps_u64 32 (by decide) x h0 (by simpa using h1)
theorem w64_id (n : Int) (h0 : -9223372036854775808 ≤ n) (h1 : n ≤ 9223372036854775807) : wrap64 n = n := by unfold wrap64; omega
theorem mul64 (a b : Int) (ha0 : 0 ≤ a) (ha : a < 18446744073709551616) (hb0 : 0 ≤ b) (hb : b < 18446744073709551616) :
    IntKind.u64.wrap ((IntKind.u64.wrap ((IntKind.u64.wrap ((a / 4294967296) * (b / 4294967296))) + ((IntKind.u64.wrap ((IntKind.u64.wrap ((a / 4294967296) * (Go.bits .and .u64 b 4294967295))) + ((IntKind.u64.wrap ((Go.bits .and .u64 a 4294967295) * (Go.bits .and .u64 b 4294967295))) / 4294967296))) / 4294967296))) + ((IntKind.u64.wrap ((Go.bits .and .u64 (IntKind.u64.wrap ((IntKind.u64.wrap ((a / 4294967296) * (Go.bits .and .u64 b 4294967295))) + ((IntKind.u64.wrap ((Go.bits .and .u64 a 4294967295) * (Go.bits .and .u64 b 4294967295))) / 4294967296))) 4294967295) + (IntKind.u64.wrap ((Go.bits .and .u64 a 4294967295) * (b / 4294967296))))) / 4294967296)) = a * b / 18446744073709551616 := by
  obtain ⟨x, rfl⟩ := Int.eq_ofNat_of_zero_le ha0
  obtain ⟨y, rfl⟩ := Int.eq_ofNat_of_zero_le hb0
  have hx : x < 18446744073709551616 := by omega
  have hy : y < 18446744073709551616 := by omega
  obtain ⟨h1, h2, h3, h4⟩ := Lib.mul64_hi x y hx hy
  have e1 : ((x : Int) / 4294967296) = ((x / 4294967296 : Nat) : Int) := by omega
  have e2 : ((y : Int) / 4294967296) = ((y / 4294967296 : Nat) : Int) := by omega
  have e3 : ((x : Int) % 4294967296) = ((x % 4294967296 : Nat) : Int) := by omega
  have e4 : ((y : Int) % 4294967296) = ((y % 4294967296 : Nat) : Int) := by omega
  have ep : ((x : Int) * (y : Int)) = ((x * y : Nat) : Int) := (Int.natCast_mul _ _).symm
  have eh : ((x * y / 18446744073709551616 : Nat) : Int) = ((x * y : Nat) : Int) / 18446744073709551616 := by omega
  have ma := Lib.half_mul_le (a := x / 4294967296) (b := y / 4294967296) (by omega) (by omega)
  have mb := Lib.half_mul_le (a := x / 4294967296) (b := y % 4294967296) (by omega) (by omega)
  have mc := Lib.half_mul_le (a := x % 4294967296) (b := y / 4294967296) (by omega) (by omega)
  have md := Lib.half_mul_le (a := x % 4294967296) (b := y % 4294967296) (by omega) (by omega)
  rw [and32 _ ha0 ha, and32 _ hb0 hb, e1, e2, e3, e4, ep, ← eh, ← h4]
  have p1 : (((x / 4294967296 : Nat) : Int) * ((y / 4294967296 : Nat) : Int)) = ((x / 4294967296 * (y / 4294967296) : Nat) : Int) := (Int.natCast_mul _ _).symm
  have p2 : (((x / 4294967296 : Nat) : Int) * ((y % 4294967296 : Nat) : Int)) = ((x / 4294967296 * (y % 4294967296) : Nat) : Int) := (Int.natCast_mul _ _).symm
  have p3 : (((x % 4294967296 : Nat) : Int) * ((y / 4294967296 : Nat) : Int)) = ((x % 4294967296 * (y / 4294967296) : Nat) : Int) := (Int.natCast_mul _ _).symm
  have p4 : (((x % 4294967296 : Nat) : Int) * ((y % 4294967296 : Nat) : Int)) = ((x % 4294967296 * (y % 4294967296) : Nat) : Int) := (Int.natCast_mul _ _).symm
  rw [p1, p2, p3, p4]
  generalize x / 4294967296 * (y / 4294967296) = a at *
  generalize x / 4294967296 * (y % 4294967296) = b at *
  generalize x % 4294967296 * (y / 4294967296) = c at *
  generalize x % 4294967296 * (y % 4294967296) = d at *
  have q1 : IntKind.u64.wrap (a : Int) = a := u64w_id _ (by omega) (by omega)
  have q2 : IntKind.u64.wrap (b : Int) = b := u64w_id _ (by omega) (by omega)
  have q3 : IntKind.u64.wrap (c : Int) = c := u64w_id _ (by omega) (by omega)
  have q4 : IntKind.u64.wrap (d : Int) = d := u64w_id _ (by omega) (by omega)
  rw [q1, q2, q3, q4]
  have q5 : IntKind.u64.wrap ((b : Int) + (d : Int) / 4294967296) = (b : Int) + (d : Int) / 4294967296 := u64w_id _ (by omega) (by omega)
  rw [q5, and32 _ (by omega) (by omega)]
  have q6 : IntKind.u64.wrap (((b : Int) + (d : Int) / 4294967296) % 4294967296 + (c : Int)) = ((b : Int) + (d : Int) / 4294967296) % 4294967296 + (c : Int) := u64w_id _ (by omega) (by omega)
  have q7 : IntKind.u64.wrap ((a : Int) + ((b : Int) + (d : Int) / 4294967296) / 4294967296) = (a : Int) + ((b : Int) + (d : Int) / 4294967296) / 4294967296 := u64w_id _ (by omega) (by omega)
  rw [q6, q7, u64w]
  omega
end Go.Proofs.Ytpnejhelandclaa.L1
namespace Go.Proofs.Ytpnejhelandclaa.A2
open Go Go.RowKit Go.Proofs.Ytpnejhelandclaa.P Go.Proofs.YtpnejhelandclaaW.PrintWords Go.Proofs.YtpnejhelandclaaW.PrintLast Go.Proofs.YtpnejhelandclaaW.PrintMore Go.Proofs.Ytpnejhelandclaa.EV Go.Proofs.Ytpnejhelandclaa.L1 Go.Proofs.Ytpnejhelandclaa.I1
def Bits (x : Int) (n : Nat) : Prop := (x = 0 ∧ n = 0) ∨ (0 < n ∧ 2 ^ (n - 1) ≤ x ∧ x < 2 ^ n)
def tab : ByteArray := (⟨#[0, 1, 2, 2, 3, 3, 3, 3, 4, 4, 4, 4, 4, 4, 4, 4, 5, 5, 5, 5, 5, 5, 5, 5, 5, 5, 5, 5, 5, 5, 5, 5, 6, 6, 6, 6, 6, 6, 6, 6, 6, 6, 6, 6, 6, 6, 6, 6, 6, 6, 6, 6, 6, 6, 6, 6, 6, 6, 6, 6, 6, 6, 6, 6, 7, 7, 7, 7, 7, 7, 7, 7, 7, 7, 7, 7, 7, 7, 7, 7, 7, 7, 7, 7, 7, 7, 7, 7, 7, 7, 7, 7, 7, 7, 7, 7, 7, 7, 7, 7, 7, 7, 7, 7, 7, 7, 7, 7, 7, 7, 7, 7, 7, 7, 7, 7, 7, 7, 7, 7, 7, 7, 7, 7, 7, 7, 7, 7, 8, 8, 8, 8, 8, 8, 8, 8, 8, 8, 8, 8, 8, 8, 8, 8, 8, 8, 8, 8, 8, 8, 8, 8, 8, 8, 8, 8, 8, 8, 8, 8, 8, 8, 8, 8, 8, 8, 8, 8, 8, 8, 8, 8, 8, 8, 8, 8, 8, 8, 8, 8, 8, 8, 8, 8, 8, 8, 8, 8, 8, 8, 8, 8, 8, 8, 8, 8, 8, 8, 8, 8, 8, 8, 8, 8, 8, 8, 8, 8, 8, 8, 8, 8, 8, 8, 8, 8, 8, 8, 8, 8, 8, 8, 8, 8, 8, 8, 8, 8, 8, 8, 8, 8, 8, 8, 8, 8, 8, 8, 8, 8, 8, 8, 8, 8, 8, 8, 8, 8, 8, 8, 8, 8, 8, 8, 8, 8]⟩ : ByteArray)
theorem tab8 : ∀ x : Fin 256, 0 ≤ bt tab (x.val : Int) ∧ bt tab (x.val : Int) ≤ 8 ∧ ((x.val = 0 ∧ bt tab (x.val : Int) = 0) ∨ (0 < bt tab (x.val : Int) ∧ (2 : Int) ^ ((bt tab (x.val : Int)).toNat - 1) ≤ x.val ∧ (x.val : Int) < 2 ^ (bt tab (x.val : Int)).toNat)) := by decide +kernel
theorem tab_at (x : Int) (h0 : 0 ≤ x) (h1 : x < 256) : ∃ n : Nat, bt tab x = (n : Int) ∧ n ≤ 8 ∧ Bits x n := by
  obtain ⟨m, rfl⟩ := Int.eq_ofNat_of_zero_le h0
  obtain ⟨a, b, c⟩ : 0 ≤ bt tab (m : Int) ∧ bt tab (m : Int) ≤ 8 ∧ ((m = 0 ∧ bt tab (m : Int) = 0) ∨ (0 < bt tab (m : Int) ∧ (2 : Int) ^ ((bt tab (m : Int)).toNat - 1) ≤ m ∧ (m : Int) < 2 ^ (bt tab (m : Int)).toNat)) := tab8 ⟨m, by omega⟩
  refine ⟨(bt tab (m : Int)).toNat, by omega, by omega, ?_⟩
  rcases c with ⟨c1, c2⟩ | ⟨c1, c2, c3⟩
  · exact .inl ⟨by omega, by omega⟩
  · exact .inr ⟨by omega, c2, c3⟩
theorem bits_up {x y : Int} {n : Nat} (s : Nat) (hs : y = x / 2 ^ s) (hy : 0 < y) (h : Bits y n) : Bits x (n + s) := by
  rcases h with ⟨h, _⟩ | ⟨h0, h1, h2⟩
  · omega
  · have hp : (0 : Int) < 2 ^ s := Int.pow_pos (by decide)
    have e1 : (2 : Int) ^ (n + s - 1) = 2 ^ (n - 1) * 2 ^ s := by rw [← Int.pow_add]; congr 1; omega
    have e2 : (2 : Int) ^ (n + s) = 2 ^ n * 2 ^ s := Int.pow_add _ _ _
    refine .inr ⟨by omega, ?_, ?_⟩
    · rw [e1]
      exact Int.le_trans (Int.mul_le_mul_of_nonneg_right h1 (Int.le_of_lt hp)) (by rw [hs]; exact Int.ediv_mul_le x (Int.ne_of_gt hp))
    · rw [e2]
      have := Int.lt_ediv_add_one_mul_self x hp
      rw [← hs] at this
      exact Int.lt_of_lt_of_le this (Int.mul_le_mul_of_nonneg_right (by omega) (Int.le_of_lt hp))
def body8 (x c : Int) : Option Int := if x ≥ 65536 then (if (x / 65536) ≥ 256 then (if 0 ≤ (((x / 65536) / 256) % 256) then (if (((x / 65536) / 256) % 256) < 256 then (some (wrap64 ((wrap64 ((wrap64 (c + 16)) + 8)) + (wrap64 (bt tab (((x / 65536) / 256) % 256)))))) else (none)) else (none)) else (if 0 ≤ ((x / 65536) % 256) then (if ((x / 65536) % 256) < 256 then (some (wrap64 ((wrap64 (c + 16)) + (wrap64 (bt tab ((x / 65536) % 256)))))) else (none)) else (none))) else (if x ≥ 256 then (if 0 ≤ ((x / 256) % 256) then (if ((x / 256) % 256) < 256 then (some (wrap64 ((wrap64 (c + 8)) + (wrap64 (bt tab ((x / 256) % 256)))))) else (none)) else (none)) else (if 0 ≤ ((x) % 256) then (if ((x) % 256) < 256 then (some (wrap64 (c + (wrap64 (bt tab ((x) % 256)))))) else (none)) else (none)))
theorem body8_is (k : Nat) (x c : Int) : bits_Len64.j0 (k + 1) x c = body8 x c := rfl
theorem len64j (x c : Int) (h0 : 0 ≤ x) (h1 : x < 4294967296) (hc : 0 ≤ c) (hc2 : c ≤ 32) : ∃ n : Nat, n ≤ 32 ∧ Bits x n ∧ ∀ k, bits_Len64.j0 (k + 1) x c = some (c + n) := by
  by_cases a : x ≥ 65536
  · by_cases b : x / 65536 ≥ 256
    · obtain ⟨n, e, hn, hb⟩ := tab_at (x / 65536 / 256) (by omega) (by omega)
      refine ⟨n + 24, by omega, bits_up 24 (by omega) (by omega) hb, fun k => ?_⟩
      rw [body8_is]
      unfold body8
      rw [if_pos a, if_pos b, show x / 65536 / 256 % 256 = x / 65536 / 256 by omega, if_pos (by omega), if_pos (by omega)]
      rw [e, w64_id (c + 16) (by omega) (by omega), w64_id (c + 16 + 8) (by omega) (by omega), w64_id (n : Int) (by omega) (by omega), w64_id _ (by omega) (by omega)]
      exact congrArg some (by omega)
    · obtain ⟨n, e, hn, hb⟩ := tab_at (x / 65536) (by omega) (by omega)
      refine ⟨n + 16, by omega, bits_up 16 (by omega) (by omega) hb, fun k => ?_⟩
      rw [body8_is]
      unfold body8
      rw [if_pos a, if_neg b, show x / 65536 % 256 = x / 65536 by omega, if_pos (by omega), if_pos (by omega)]
      rw [e, w64_id (c + 16) (by omega) (by omega), w64_id (n : Int) (by omega) (by omega), w64_id _ (by omega) (by omega)]
      exact congrArg some (by omega)
  · by_cases b : x ≥ 256
    · obtain ⟨n, e, hn, hb⟩ := tab_at (x / 256) (by omega) (by omega)
      refine ⟨n + 8, by omega, bits_up 8 (by omega) (by omega) hb, fun k => ?_⟩
      rw [body8_is]
      unfold body8
      rw [if_neg a, if_pos b, show x / 256 % 256 = x / 256 by omega, if_pos (by omega), if_pos (by omega)]
      rw [e, w64_id (c + 8) (by omega) (by omega), w64_id (n : Int) (by omega) (by omega), w64_id _ (by omega) (by omega)]
      exact congrArg some (by omega)
    · obtain ⟨n, e, hn, hb⟩ := tab_at x (by omega) (by omega)
      refine ⟨n, by omega, hb, fun k => ?_⟩
      rw [body8_is]
      unfold body8
      rw [if_neg a, if_neg b, show x % 256 = x by omega, if_pos (by omega), if_pos (by omega)]
      rw [e, w64_id (n : Int) (by omega) (by omega), w64_id _ (by omega) (by omega)]
theorem zeros64 (y : Int) (h0 : 0 < y) (h1 : y < 18446744073709551616) : ∃ s : Nat, s ≤ 63 ∧ 9223372036854775808 ≤ y * 2 ^ s ∧ y * 2 ^ s < 18446744073709551616 ∧ ∀ k, bits_LeadingZeros64.f (k + 1) y = some (s : Int) := by
  have fin : ∀ n : Nat, n ≤ 64 → Bits y n → ∃ s : Nat, s ≤ 63 ∧ (s : Int) = 64 - n ∧ 9223372036854775808 ≤ y * 2 ^ s ∧ y * 2 ^ s < 18446744073709551616 := by
    intro n hn hb
    rcases hb with ⟨h, _⟩ | ⟨a, b, c⟩
    · omega
    · have hp : (0 : Int) < 2 ^ (64 - n) := Int.pow_pos (by decide)
      refine ⟨64 - n, by omega, by omega, ?_, ?_⟩
      · have e : (9223372036854775808 : Int) = 2 ^ (n - 1) * 2 ^ (64 - n) := by rw [← Int.pow_add, show n - 1 + (64 - n) = 63 by omega]; decide
        rw [e]
        exact Int.mul_le_mul_of_nonneg_right b (Int.le_of_lt hp)
      · have e : (18446744073709551616 : Int) = 2 ^ n * 2 ^ (64 - n) := by rw [← Int.pow_add, show n + (64 - n) = 64 by omega]; decide
        rw [e]
        exact Int.mul_lt_mul_of_pos_right c hp
  by_cases a : y ≥ 4294967296
  · obtain ⟨n, hn, hb, e⟩ := len64j (y / 4294967296) 32 (by omega) (by omega) (by decide) (by decide)
    obtain ⟨s, s0, s1, s2, s3⟩ := fin (n + 32) (by omega) (bits_up 32 (by omega) (by omega) hb)
    refine ⟨s, s0, s2, s3, fun k => ?_⟩
    unfold bits_LeadingZeros64.f bits_Len64.f
    rw [if_pos a, e, Option.bind_some, w64_id _ (by omega) (by omega)]
    exact congrArg some (by omega)
  · obtain ⟨n, hn, hb, e⟩ := len64j y 0 (by omega) (by omega) (by decide) (by decide)
    obtain ⟨s, s0, s1, s2, s3⟩ := fin n (by omega) hb
    refine ⟨s, s0, s2, s3, fun k => ?_⟩
    unfold bits_LeadingZeros64.f bits_Len64.f
    rw [if_neg a, e, Option.bind_some, w64_id _ (by omega) (by omega)]
    exact congrArg some (by omega)
structure Trial (yn1 yn0 n u q r : Int) : Prop where
  q0 : 0 ≤ q
  q1 : q ≤ 4294967297
  r0 : 0 ≤ r
  r1 : r < 4294967296
  e : q * yn1 + r = n
  up : n * 4294967296 + u < (q * yn1) * 4294967296 + q * yn0 + yn1 * 4294967296 + yn0
structure Halves (yn1 yn0 n u : Int) : Prop where
  a0 : 2147483648 ≤ yn1
  a1 : yn1 < 4294967296
  b0 : 0 ≤ yn0
  b1 : yn0 < 4294967296
  u0 : 0 ≤ u
  u1 : u < 4294967296
  n0 : 0 ≤ n
  n1 : n < yn1 * 4294967296 + yn0
theorem digit_lt {yn1 yn0 n u q : Int} (h : Halves yn1 yn0 n u) (hq : (q * yn1) * 4294967296 + q * yn0 ≤ n * 4294967296 + u) : q < 4294967296 := by
  obtain ⟨a0, a1, b0, b1, u0, u1, n0, n1⟩ := h
  rcases (by omega : q < 4294967296 ∨ 4294967296 ≤ q) with hlt | hge
  · exact hlt
  · exfalso
    have p1 : 4294967296 * yn1 ≤ q * yn1 := Int.mul_le_mul_of_nonneg_right hge (by omega)
    have p2 : 4294967296 * yn0 ≤ q * yn0 := Int.mul_le_mul_of_nonneg_right hge b0
    generalize q * yn1 = A at *
    generalize q * yn0 = C at *
    omega
theorem trial_down {yn1 yn0 n u q r : Int} (h : Halves yn1 yn0 n u) (t : Trial yn1 yn0 n u q r) (ht : 4294967296 ≤ q ∨ 4294967296 * r + u < q * yn0) :
    1 ≤ q ∧ n * 4294967296 + u < (q * yn1) * 4294967296 + q * yn0 ∧ (q - 1) * yn1 = q * yn1 - yn1 ∧ (q - 1) * yn0 = q * yn0 - yn0 ∧ q * yn0 - yn0 ≤ 18446744069414584320 := by
  obtain ⟨a0, a1, b0, b1, u0, u1, n0, n1⟩ := h
  obtain ⟨q0, q1, r0, r1, e, up⟩ := t
  have e1 : (q - 1) * yn1 = q * yn1 - yn1 := by rw [Int.sub_mul, Int.one_mul]
  have e0 : (q - 1) * yn0 = q * yn0 - yn0 := by rw [Int.sub_mul, Int.one_mul]
  have h1 : 1 ≤ q := by
    rcases (by omega : q = 0 ∨ 1 ≤ q) with hz | hz
    · subst hz
      rw [Int.zero_mul] at ht
      omega
    · exact hz
  have hb : (q - 1) * yn0 ≤ 4294967296 * 4294967295 := Int.mul_le_mul (by omega) (by omega) b0 (by decide)
  refine ⟨h1, ?_, e1, e0, by omega⟩
  rcases ht with ht | ht
  · have p1 : 4294967296 * yn1 ≤ q * yn1 := Int.mul_le_mul_of_nonneg_right ht (by omega)
    have p2 : 4294967296 * yn0 ≤ q * yn0 := Int.mul_le_mul_of_nonneg_right ht b0
    generalize q * yn1 = A at *
    generalize q * yn0 = C at *
    omega
  · generalize q * yn1 = A at *
    generalize q * yn0 = C at *
    omega
def Right (yn1 yn0 n u q : Int) : Prop := 0 ≤ q ∧ (q * yn1) * 4294967296 + q * yn0 ≤ n * 4294967296 + u ∧ n * 4294967296 + u < (q * yn1) * 4294967296 + q * yn0 + yn1 * 4294967296 + yn0
theorem trial_stop {yn1 yn0 n u q r : Int} (t : Trial yn1 yn0 n u q r) (h2 : ¬ 4294967296 * r + u < q * yn0) : Right yn1 yn0 n u q := by
  obtain ⟨q0, q1, r0, r1, e, up⟩ := t
  refine ⟨q0, ?_, up⟩
  generalize q * yn1 = A at *
  generalize q * yn0 = C at *
  omega
theorem trial_next {yn1 yn0 n u q r : Int} (h : Halves yn1 yn0 n u) (t : Trial yn1 yn0 n u q r) (ht : 4294967296 ≤ q ∨ 4294967296 * r + u < q * yn0) (hr : r + yn1 < 4294967296) : Trial yn1 yn0 n u (q - 1) (r + yn1) := by
  obtain ⟨h1, h2, e1, e0, hb⟩ := trial_down h t ht
  obtain ⟨a0, a1, b0, b1, u0, u1, n0, n1⟩ := h
  obtain ⟨q0, q1, r0, r1, e, up⟩ := t
  refine ⟨by omega, by omega, by omega, hr, ?_, ?_⟩
  · rw [e1]
    omega
  · rw [e1, e0]
    generalize q * yn1 = A at *
    generalize q * yn0 = C at *
    omega
theorem trial_last {yn1 yn0 n u q r : Int} (h : Halves yn1 yn0 n u) (t : Trial yn1 yn0 n u q r) (ht : 4294967296 ≤ q ∨ 4294967296 * r + u < q * yn0) (hr : 4294967296 ≤ r + yn1) : Right yn1 yn0 n u (q - 1) := by
  obtain ⟨h1, h2, e1, e0, hb⟩ := trial_down h t ht
  obtain ⟨a0, a1, b0, b1, u0, u1, n0, n1⟩ := h
  obtain ⟨q0, q1, r0, r1, e, up⟩ := t
  unfold Right
  rw [e1, e0]
  generalize q * yn1 = A at *
  generalize q * yn0 = C at *
  omega
theorem test_is {yn1 yn0 n u q r : Int} (h : Halves yn1 yn0 n u) (t : Trial yn1 yn0 n u q r) (hq : ¬ q ≥ 4294967296) :
    decide (IntKind.u64.wrap (q * yn0) > IntKind.u64.wrap (IntKind.u64.wrap (4294967296 * r) + u)) = decide (4294967296 * r + u < q * yn0) := by
  obtain ⟨a0, a1, b0, b1, u0, u1, n0, n1⟩ := h
  obtain ⟨q0, q1, r0, r1, e, up⟩ := t
  have hb : q * yn0 ≤ 4294967295 * 4294967295 := Int.mul_le_mul (by omega) (by omega) b0 (by decide)
  have hz : 0 ≤ q * yn0 := Int.mul_nonneg q0 b0
  rw [u64w_id (q * yn0) hz (by omega), u64w_id (4294967296 * r) (by omega) (by omega), u64w_id _ (by omega) (by omega)]
theorem trial_first {yn1 yn0 n u : Int} (h : Halves yn1 yn0 n u) : Trial yn1 yn0 n u (n / yn1) (n - n / yn1 * yn1) ∧ 0 ≤ n / yn1 * yn1 ∧ n / yn1 * yn1 ≤ n := by
  obtain ⟨a0, a1, b0, b1, u0, u1, n0, n1⟩ := h
  have p0 : 0 ≤ n / yn1 := Int.ediv_nonneg n0 (by omega)
  have p1 : n / yn1 * yn1 ≤ n := Int.ediv_mul_le n (by omega)
  have p2 : n < (n / yn1 + 1) * yn1 := Int.lt_ediv_add_one_mul_self n (by omega)
  have p3 : (n / yn1 + 1) * yn1 = n / yn1 * yn1 + yn1 := by rw [Int.add_mul, Int.one_mul]
  have p4 : 0 ≤ n / yn1 * yn1 := Int.mul_nonneg p0 (by omega)
  have p5 : 0 ≤ n / yn1 * yn0 := Int.mul_nonneg p0 b0
  refine ⟨⟨p0, ?_, by omega, by omega, by omega, ?_⟩, p4, p1⟩
  · rcases (by omega : n / yn1 ≤ 4294967297 ∨ 4294967298 ≤ n / yn1) with hle | hge
    · exact hle
    · exfalso
      have : 4294967298 * yn1 ≤ n / yn1 * yn1 := Int.mul_le_mul_of_nonneg_right hge (by omega)
      omega
  · generalize n / yn1 * yn1 = A at *
    generalize n / yn1 * yn0 = C at *
    omega
theorem rest_is {n u p : Int} (h0 : 0 ≤ n * 4294967296 + u - p) (h1 : n * 4294967296 + u - p < 18446744073709551616) :
    IntKind.u64.wrap (IntKind.u64.wrap (IntKind.u64.wrap (n * 4294967296) + u) - IntKind.u64.wrap p) = n * 4294967296 + u - p := by
  rw [u64w, u64w, u64w, u64w]
  omega
theorem times_y (q yn1 yn0 y : Int) (hy : y = yn1 * 4294967296 + yn0) : q * y = (q * yn1) * 4294967296 + q * yn0 := by
  rw [hy, Int.mul_add, ← Int.mul_assoc]
theorem l1_ok (y yn1 yn0 n u : Int) (s : Nat) (hy : y = yn1 * 4294967296 + yn0) (h : Halves yn1 yn0 n u) (q1 : Int) (hq1 : 0 ≤ q1) (hq2 : q1 < 4294967296) :
    ∀ (d : Nat) (q r : Int), Trial yn1 yn0 n u q r → 4294967296 ≤ r + d * 2147483648 →
      ∃ Q, Right yn1 yn0 n u Q ∧ Ev (fun k => bits_Div64.l1 k y (s : Int) yn1 yn0 u q1 r n q) (q1 * 4294967296 + Q, shr .u64 (n * 4294967296 + u - Q * y) (s : Int)) := by
  have fin : ∀ Q, Right yn1 yn0 n u Q → 0 ≤ n * 4294967296 + u - Q * y ∧ n * 4294967296 + u - Q * y < 18446744073709551616 ∧ Q < 4294967296 := by
    intro Q hQ
    have := digit_lt h hQ.2.1
    have e := times_y Q yn1 yn0 y hy
    obtain ⟨a0, a1, b0, b1, u0, u1, n0, n1⟩ := h
    obtain ⟨c0, c1, c2⟩ := hQ
    rw [e]
    generalize Q * yn1 = A at *
    generalize Q * yn0 = C at *
    omega
  intro d
  induction d with
  | zero =>
    intro q r t hd
    have := t.r1
    omega
  | succ d ih =>
    intro q r t hd
    have ht0 := t.q0
    have ht1 := t.q1
    have hr0 := t.r0
    have hr1 := t.r1
    have ha0 := h.a0
    have ha1 := h.a1
    have body : ∀ c : Bool, (c = true ↔ (4294967296 ≤ q ∨ 4294967296 * r + u < q * yn0)) →
        ∃ Q, Right yn1 yn0 n u Q ∧ Ev (fun k => bits_Div64.j4 k y (s : Int) yn1 yn0 u q1 r n q c) (q1 * 4294967296 + Q, shr .u64 (n * 4294967296 + u - Q * y) (s : Int)) := by
      intro c hc
      cases c with
      | true =>
        have ht := hc.1 rfl
        have hw : IntKind.u64.wrap (r + yn1) = r + yn1 := u64w_id _ (by omega) (by omega)
        have hd1 := (trial_down h t ht).1
        have hw2 : IntKind.u64.wrap (q - 1) = q - 1 := u64w_id _ (by omega) (by omega)
        by_cases hr : 4294967296 ≤ r + yn1
        · have hR := trial_last h t ht hr
          have hf := fin _ hR
          refine ⟨q - 1, hR, Ev_one fun k => ?_⟩
          simp only [bits_Div64.j4]
          rw [if_pos trivial, hw, if_pos (by omega), if_pos (by omega), hw2, rest_is hf.1 hf.2.1, u64w_id (q1 * 4294967296) (by omega) (by omega), u64w_id _ (by omega) (by omega)]
        · obtain ⟨Q, hQ, hE⟩ := ih (q - 1) (r + yn1) (trial_next h t ht (by omega)) (by omega)
          refine ⟨Q, hQ, Ev.step (fun k => ?_) hE⟩
          simp only [bits_Div64.j4]
          rw [if_pos trivial, hw, if_neg (by omega), hw2]
      | false =>
        have ht : ¬ (4294967296 ≤ q ∨ 4294967296 * r + u < q * yn0) := fun hh => Bool.noConfusion (hc.2 hh)
        have hR := trial_stop t (fun hh => ht (.inr hh))
        have hf := fin _ hR
        refine ⟨q, hR, Ev_one fun k => ?_⟩
        simp only [bits_Div64.j4]
        rw [if_neg (by decide), if_pos (by omega), rest_is hf.1 hf.2.1, u64w_id (q1 * 4294967296) (by omega) (by omega), u64w_id _ (by omega) (by omega)]
    by_cases hq : q ≥ 4294967296
    · obtain ⟨Q, hQ, hE⟩ := body true ⟨fun _ => .inl hq, fun _ => rfl⟩
      refine ⟨Q, hQ, Ev.step (fun k => ?_) hE⟩
      simp only [bits_Div64.l1]
      rw [if_pos hq]
    · obtain ⟨Q, hQ, hE⟩ := body (decide (4294967296 * r + u < q * yn0)) (by rw [decide_eq_true_iff]; omega)
      refine ⟨Q, hQ, Ev.step (fun k => ?_) hE⟩
      simp only [bits_Div64.l1]
      rw [if_neg hq, test_is h t hq]
theorem l0_ok (y yn1 yn0 n u v : Int) (s : Nat) (hy : y = yn1 * 4294967296 + yn0) (h : Halves yn1 yn0 n u) (hv0 : 0 ≤ v) (hv1 : v < 4294967296) :
    ∀ (d : Nat) (q r : Int), Trial yn1 yn0 n u q r → 4294967296 ≤ r + d * 2147483648 →
      ∃ Q1 Q0, 0 ≤ Q1 ∧ Q1 < 4294967296 ∧ 0 ≤ Q0 ∧ Q0 < 4294967296 ∧ 0 ≤ (n * 4294967296 + u - Q1 * y) * 4294967296 + v - Q0 * y ∧ (n * 4294967296 + u - Q1 * y) * 4294967296 + v - Q0 * y < y ∧
        Ev (fun k => bits_Div64.l0 k y (s : Int) yn1 yn0 n u v q r) (Q1 * 4294967296 + Q0, shr .u64 ((n * 4294967296 + u - Q1 * y) * 4294967296 + v - Q0 * y) (s : Int)) := by
  have fin : ∀ Q, Right yn1 yn0 n u Q → ∃ Q0, 0 ≤ Q ∧ Q < 4294967296 ∧ 0 ≤ Q0 ∧ Q0 < 4294967296 ∧ 0 ≤ (n * 4294967296 + u - Q * y) * 4294967296 + v - Q0 * y ∧ (n * 4294967296 + u - Q * y) * 4294967296 + v - Q0 * y < y ∧
        Ev (fun k => bits_Div64.j2 k y (s : Int) yn1 yn0 n u v Q) (Q * 4294967296 + Q0, shr .u64 ((n * 4294967296 + u - Q * y) * 4294967296 + v - Q0 * y) (s : Int)) := by
    intro Q hQ
    have hlt := digit_lt h hQ.2.1
    have e := times_y Q yn1 yn0 y hy
    obtain ⟨c0, c1, c2⟩ := hQ
    have ha0 := h.a0
    have ha1 := h.a1
    have hr0 : 0 ≤ n * 4294967296 + u - Q * y := by rw [e]; omega
    have hr1 : n * 4294967296 + u - Q * y < y := by
      rw [e, hy]
      generalize Q * yn1 = A at *
      generalize Q * yn0 = C at *
      omega
    have hw := rest_is (n := n) (u := u) (p := Q * y) hr0 (by have := h.b1; omega)
    generalize n * 4294967296 + u - Q * y = m at *
    have hH : Halves yn1 yn0 m v := ⟨h.a0, h.a1, h.b0, h.b1, hv0, hv1, hr0, by omega⟩
    obtain ⟨tr, tr0, tr1⟩ := trial_first hH
    obtain ⟨Q0, hQ0, hE⟩ := l1_ok y yn1 yn0 m v s hy hH Q c0 hlt 2 _ _ tr (by have := tr.r0; omega)
    have hlt0 := digit_lt hH hQ0.2.1
    have e0 := times_y Q0 yn1 yn0 y hy
    obtain ⟨g0, g1, g2⟩ := hQ0
    refine ⟨Q0, c0, hlt, g0, hlt0, by rw [e0]; omega, ?_, Ev.step (fun k => ?_) hE⟩
    · rw [e0, hy]
      generalize Q0 * yn1 = A at *
      generalize Q0 * yn0 = C at *
      omega
    · have hd : Int.tdiv m yn1 = m / yn1 := Int.tdiv_eq_ediv_of_nonneg hr0
      have hdr : 0 ≤ m / yn1 := tr.q0
      have hdr1 : m / yn1 ≤ 4294967297 := tr.q1
      simp only [bits_Div64.j2]
      rw [if_neg (by omega), hw, hd, u64w_id (m / yn1) hdr (by omega), u64w_id (m / yn1 * yn1) tr0 (by have := h.b1; omega), u64w_id (m - m / yn1 * yn1) (by omega) (by have := h.b1; omega)]
  intro d
  induction d with
  | zero =>
    intro q r t hd
    have := t.r1
    omega
  | succ d ih =>
    intro q r t hd
    have ht0 := t.q0
    have ht1 := t.q1
    have hr0 := t.r0
    have hr1 := t.r1
    have ha0 := h.a0
    have ha1 := h.a1
    have body : ∀ c : Bool, (c = true ↔ (4294967296 ≤ q ∨ 4294967296 * r + u < q * yn0)) →
        ∃ Q1 Q0, 0 ≤ Q1 ∧ Q1 < 4294967296 ∧ 0 ≤ Q0 ∧ Q0 < 4294967296 ∧ 0 ≤ (n * 4294967296 + u - Q1 * y) * 4294967296 + v - Q0 * y ∧ (n * 4294967296 + u - Q1 * y) * 4294967296 + v - Q0 * y < y ∧
        Ev (fun k => bits_Div64.j1 k y (s : Int) yn1 yn0 n u v q r c) (Q1 * 4294967296 + Q0, shr .u64 ((n * 4294967296 + u - Q1 * y) * 4294967296 + v - Q0 * y) (s : Int)) := by
      intro c hc
      cases c with
      | true =>
        have ht := hc.1 rfl
        have hw : IntKind.u64.wrap (r + yn1) = r + yn1 := u64w_id _ (by omega) (by omega)
        have hd1 := (trial_down h t ht).1
        have hw2 : IntKind.u64.wrap (q - 1) = q - 1 := u64w_id _ (by omega) (by omega)
        by_cases hr : 4294967296 ≤ r + yn1
        · obtain ⟨Q0, z0, z1, z2, z3, z4, z5, hE⟩ := fin _ (trial_last h t ht hr)
          refine ⟨q - 1, Q0, z0, z1, z2, z3, z4, z5, Ev.step (fun k => ?_) hE⟩
          simp only [bits_Div64.j1]
          rw [if_pos trivial, hw, if_pos (by omega), hw2]
        · obtain ⟨Q1, Q0, z0, z1, z2, z3, z4, z5, hE⟩ := ih (q - 1) (r + yn1) (trial_next h t ht (by omega)) (by omega)
          refine ⟨Q1, Q0, z0, z1, z2, z3, z4, z5, Ev.step (fun k => ?_) hE⟩
          simp only [bits_Div64.j1]
          rw [if_pos trivial, hw, if_neg (by omega), hw2]
      | false =>
        have ht : ¬ (4294967296 ≤ q ∨ 4294967296 * r + u < q * yn0) := fun hh => Bool.noConfusion (hc.2 hh)
        obtain ⟨Q0, z0, z1, z2, z3, z4, z5, hE⟩ := fin _ (trial_stop t (fun hh => ht (.inr hh)))
        refine ⟨q, Q0, z0, z1, z2, z3, z4, z5, Ev.step (fun k => ?_) hE⟩
        simp only [bits_Div64.j1]
        rw [if_neg (by decide)]
    by_cases hq : q ≥ 4294967296
    · obtain ⟨Q1, Q0, z0, z1, z2, z3, z4, z5, hE⟩ := body true ⟨fun _ => .inl hq, fun _ => rfl⟩
      refine ⟨Q1, Q0, z0, z1, z2, z3, z4, z5, Ev.step (fun k => ?_) hE⟩
      simp only [bits_Div64.l0]
      rw [if_pos hq]
    · obtain ⟨Q1, Q0, z0, z1, z2, z3, z4, z5, hE⟩ := body (decide (4294967296 * r + u < q * yn0)) (by rw [decide_eq_true_iff]; omega)
      refine ⟨Q1, Q0, z0, z1, z2, z3, z4, z5, Ev.step (fun k => ?_) hE⟩
      simp only [bits_Div64.l0]
      rw [if_neg hq, test_is h t hq]
theorem parts (hi lo y : Int) (s : Nat) (hs : s ≤ 63) (h0 : 0 ≤ hi) (h1 : hi < y) (l0 : 0 ≤ lo) (l1 : lo < 18446744073709551616) (y1 : y * 2 ^ s < 18446744073709551616) :
    ∃ n m : Int, Go.bits .or .u64 (shl .u64 hi (s : Int)) (shr .u64 lo (64 - (s : Int))) = n ∧ shl .u64 lo (s : Int) = m ∧ 0 ≤ n ∧ n < y * 2 ^ s ∧ 0 ≤ m ∧ m < 18446744073709551616 ∧ (hi * 18446744073709551616 + lo) * 2 ^ s = n * 18446744073709551616 + m := by
  have hp : (0 : Int) < 2 ^ s := Int.pow_pos (by decide)
  have hp2 : (0 : Int) < 2 ^ (64 - s) := Int.pow_pos (by decide)
  have hpp : (2 : Int) ^ (64 - s) * 2 ^ s = 18446744073709551616 := by rw [← Int.pow_add, show 64 - s + s = 64 by omega]; decide
  have e1 : shl .u64 hi (s : Int) = hi * 2 ^ s := by
    unfold shl
    rw [Int.toNat_natCast, Nat.min_eq_left (by show s ≤ 64; omega)]
    have a : 0 ≤ hi * 2 ^ s := Int.mul_nonneg h0 (Int.le_of_lt hp)
    have b : hi * 2 ^ s ≤ y * 2 ^ s := Int.mul_le_mul_of_nonneg_right (by omega) (Int.le_of_lt hp)
    exact u64w_id _ a (by omega)
  have e2 : shr .u64 lo (64 - (s : Int)) = lo / 2 ^ (64 - s) := by
    unfold shr
    rw [show (64 - (s : Int)).toNat = 64 - s by omega, Nat.min_eq_left (by show 64 - s ≤ 64; omega)]
  have e3 : shl .u64 lo (s : Int) = (lo * 2 ^ s) % 18446744073709551616 := by
    unfold shl
    rw [Int.toNat_natCast, Nat.min_eq_left (by show s ≤ 64; omega), u64w]
  have d0 : 0 ≤ lo / 2 ^ (64 - s) := Int.ediv_nonneg l0 (Int.le_of_lt hp2)
  have d1 : lo / 2 ^ (64 - s) < 2 ^ s := by
    refine Int.ediv_lt_of_lt_mul hp2 ?_
    rw [Int.mul_comm, hpp]
    exact l1
  have hx : 0 ≤ hi * 2 ^ s := Int.mul_nonneg h0 (Int.le_of_lt hp)
  have hx1 : hi * 2 ^ s + 2 ^ s ≤ y * 2 ^ s := by
    have : (hi + 1) * 2 ^ s ≤ y * 2 ^ s := Int.mul_le_mul_of_nonneg_right (by omega) (Int.le_of_lt hp)
    rw [Int.add_mul, Int.one_mul] at this
    exact this
  have e4 : Go.bits .or .u64 (hi * 2 ^ s) (lo / 2 ^ (64 - s)) = hi * 2 ^ s + lo / 2 ^ (64 - s) :=
    bits_join .u64 64 (by decide) wraps_u64 s _ _ hx (Int.mul_emod_left _ _) (by simpa using (by omega : hi * 2 ^ s < 18446744073709551616)) d0 d1 (by simpa using (by omega : lo / 2 ^ (64 - s) < 18446744073709551616))
  have e5 : lo * 2 ^ s = (lo / 2 ^ (64 - s)) * 18446744073709551616 + (lo * 2 ^ s) % 18446744073709551616 := by
    have a : lo = 2 ^ (64 - s) * (lo / 2 ^ (64 - s)) + lo % 2 ^ (64 - s) := (Int.mul_ediv_add_emod lo (2 ^ (64 - s))).symm
    have b : lo % 2 ^ (64 - s) < 2 ^ (64 - s) := Int.emod_lt_of_pos _ hp2
    have c : 0 ≤ lo % 2 ^ (64 - s) := Int.emod_nonneg _ (Int.ne_of_gt hp2)
    generalize lo / 2 ^ (64 - s) = t at *
    generalize lo % 2 ^ (64 - s) = g at *
    have e : lo * 2 ^ s = t * 18446744073709551616 + g * 2 ^ s := by rw [a, Int.add_mul, Int.mul_comm (2 ^ (64 - s)) t, Int.mul_assoc, hpp]
    have f0 : 0 ≤ g * 2 ^ s := Int.mul_nonneg c (Int.le_of_lt hp)
    have f1 : g * 2 ^ s < 18446744073709551616 := by rw [← hpp]; exact Int.mul_lt_mul_of_pos_right b hp
    generalize g * 2 ^ s = x at *
    generalize lo * 2 ^ s = z at *
    omega
  refine ⟨hi * 2 ^ s + lo / 2 ^ (64 - s), (lo * 2 ^ s) % 18446744073709551616, by rw [e1, e2, e4], e3, by omega, by omega, by omega, by omega, ?_⟩
  rw [Int.add_mul, Int.mul_right_comm]
  generalize hi * 2 ^ s = a at *
  generalize lo / 2 ^ (64 - s) = b at *
  generalize lo * 2 ^ s = c at *
  omega
theorem div64 (hi lo y : Int) (h0 : 0 ≤ hi) (h1 : hi < y) (l0 : 0 ≤ lo) (l1 : lo < 18446744073709551616) (y1 : y < 18446744073709551616) :
    Ev (fun k => bits_Div64.f k hi lo y) ((hi * 18446744073709551616 + lo) / y, (hi * 18446744073709551616 + lo) % y) := by
  unfold bits_Div64.f
  by_cases hz : hi = 0
  · refine Ev_all_k fun k => ?_
    rw [if_neg (by omega), if_neg (by omega), if_pos hz, hz, Int.zero_mul, Int.zero_add, Int.tdiv_eq_ediv_of_nonneg l0, Int.tmod_eq_emod_of_nonneg l0]
    have a : 0 ≤ lo / y := Int.ediv_nonneg l0 (by omega)
    have b : lo / y ≤ lo := Int.ediv_le_self _ l0
    rw [u64w_id _ a (by omega)]
  · obtain ⟨s, hs, ya, yb, hE⟩ := zeros64 y (by omega) y1
    obtain ⟨n, m, en, em, n0, n1, m0, m1, eU⟩ := parts hi lo y s hs h0 h1 l0 l1 yb
    have hp : (0 : Int) < 2 ^ s := Int.pow_pos (by decide)
    have ey : shl .u64 y (s : Int) = y * 2 ^ s := by
      unfold shl
      rw [Int.toNat_natCast, Nat.min_eq_left (by show s ≤ 64; omega)]
      exact u64w_id _ (by omega) yb
    have ws : IntKind.u64.wrap (s : Int) = s := u64w_id _ (by omega) (by omega)
    have ws2 : IntKind.u64.wrap (64 - (s : Int)) = 64 - s := u64w_id _ (by omega) (by omega)
    generalize hY : y * 2 ^ s = Y at *
    have hy : Y = Y / 4294967296 * 4294967296 + Y % 4294967296 := by omega
    have hH : Halves (Y / 4294967296) (Y % 4294967296) n (m / 4294967296) := ⟨by omega, by omega, by omega, by omega, by omega, by omega, n0, by omega⟩
    obtain ⟨tr, tr0, tr1⟩ := trial_first hH
    obtain ⟨Q1, Q0, a0, a1, b0, b1, r0, r1, hL⟩ := l0_ok Y _ _ n (m / 4294967296) (m % 4294967296) s hy hH (by omega) (by omega) 2 _ _ tr (by have := tr.r0; omega)
    have hd : Int.tdiv n (Y / 4294967296) = n / (Y / 4294967296) := Int.tdiv_eq_ediv_of_nonneg n0
    have hdr : 0 ≤ n / (Y / 4294967296) := tr.q0
    have hdr1 : n / (Y / 4294967296) ≤ 4294967297 := tr.q1
    have key : ∀ k, bits_Div64.f (k + 1) hi lo y = bits_Div64.l0 (k + 1) Y (s : Int) (Y / 4294967296) (Y % 4294967296) n (m / 4294967296) (m % 4294967296) (n / (Y / 4294967296)) (n - n / (Y / 4294967296) * (Y / 4294967296)) := by
      intro k
      unfold bits_Div64.f
      rw [if_neg (by omega), if_neg (by omega), if_neg hz, hE, Option.bind_some, ws, ws2, if_pos (by omega), if_pos (by omega), ey, if_neg (by omega), en, em, and32 Y (by omega) yb, and32 m m0 m1, hd, u64w_id (n / (Y / 4294967296)) hdr (by omega),
        u64w_id (n / (Y / 4294967296) * (Y / 4294967296)) tr0 (by omega), u64w_id (n - n / (Y / 4294967296) * (Y / 4294967296)) (by omega) (by omega)]
    have fin : (hi * 18446744073709551616 + lo) / y = Q1 * 4294967296 + Q0 ∧ (hi * 18446744073709551616 + lo) % y = shr .u64 ((n * 4294967296 + m / 4294967296 - Q1 * Y) * 4294967296 + m % 4294967296 - Q0 * Y) (s : Int) := by
      have e : (hi * 18446744073709551616 + lo) * 2 ^ s = (Q1 * 4294967296 + Q0) * Y + ((n * 4294967296 + m / 4294967296 - Q1 * Y) * 4294967296 + m % 4294967296 - Q0 * Y) := by
        rw [eU, Int.add_mul, Int.mul_right_comm]
        generalize Q1 * Y = a at *
        generalize Q0 * Y = b at *
        omega
      generalize (n * 4294967296 + m / 4294967296 - Q1 * Y) * 4294967296 + m % 4294967296 - Q0 * Y = R at *
      generalize Q1 * 4294967296 + Q0 = Q at *
      generalize hi * 18446744073709551616 + lo = N at *
      have e2 : R = (N - Q * y) * 2 ^ s := by
        rw [Int.sub_mul, e, ← hY, Int.mul_assoc]
        omega
      have e3 : shr .u64 R (s : Int) = N - Q * y := by
        unfold shr
        rw [Int.toNat_natCast, Nat.min_eq_left (by show s ≤ 64; omega), e2, Int.mul_ediv_cancel _ (Int.ne_of_gt hp)]
      have f0 : 0 ≤ N - Q * y := by
        rcases (by omega : 0 ≤ N - Q * y ∨ N - Q * y < 0) with g | g
        · exact g
        · have := Int.mul_neg_of_neg_of_pos g hp
          omega
      have f1 : N - Q * y < y := by
        rcases (by omega : N - Q * y < y ∨ y ≤ N - Q * y) with g | g
        · exact g
        · have := Int.mul_le_mul_of_nonneg_right g (Int.le_of_lt hp)
          omega
      rw [e3]
      have hN : N = (N - Q * y) + y * Q := by rw [Int.mul_comm y Q]; omega
      generalize N - Q * y = z at *
      subst hN
      rw [Int.add_mul_ediv_left _ _ (by omega), Int.ediv_eq_zero_of_lt f0 f1, Int.zero_add, Int.add_mul_emod_self_left, Int.emod_eq_of_lt f0 f1]
      exact ⟨rfl, rfl⟩
    rw [fin.1, fin.2]
    obtain ⟨K, hK⟩ := hL
    refine ⟨K + 1, fun k hk => ?_⟩
    obtain ⟨j, rfl⟩ : ∃ j, k = j + 1 := ⟨k - 1, by omega⟩
    have := key j
    unfold bits_Div64.f at this
    exact this.trans (hK (j + 1) (by omega))
def mdOk (a b c : Int) : Prop := (0 ≤ a ∧ a ≤ 1000000000000000) ∧ (0 ≤ b ∧ b ≤ 1000000000000000) ∧ (1 ≤ c ∧ c ≤ 1000000000000000) ∧ a * b / c ≤ 1000000000000000
instance (a b c : Int) : Decidable (mdOk a b c) := by unfold mdOk; exact inferInstance
def mdR (a b c : Int) : Int × Int × Bool := if mdOk a b c then (a * b / c, a * b % c, true) else (0, 0, false)
theorem md_no {a b c : Int} (h : ¬ mdOk a b c) : mdR a b c = (0, 0, false) := if_neg h
theorem md_yes {a b c : Int} (h : mdOk a b c) : mdR a b c = (a * b / c, a * b % c, true) := if_pos h
theorem gates {ρ : Type} {A B C : Prop} [Decidable A] [Decidable B] [Decidable C] (f : Nat → Bool → Option ρ) (r : ρ) (hb : ¬ (A ∧ B ∧ C) → Ev (fun k => f k true) r) (hg : A → B → C → Ev (fun k => f k false) r) :
    Ev (fun k => if decide A = true then (if decide B = true then f k (!decide C) else f k true) else f k true) r := by
  by_cases ha : A
  · by_cases hb2 : B
    · by_cases hc : C
      · exact Ev.congr (fun k => by rw [if_pos (decide_eq_true ha), if_pos (decide_eq_true hb2), decide_eq_true hc]; rfl) (hg ha hb2 hc)
      · exact Ev.congr (fun k => by rw [if_pos (decide_eq_true ha), if_pos (decide_eq_true hb2), decide_eq_false hc]; rfl) (hb fun h => hc h.2.2)
    · exact Ev.congr (fun k => by rw [if_pos (decide_eq_true ha), if_neg (by rw [decide_eq_false hb2]; decide)]) (hb fun h => hb2 h.2.1)
  · exact Ev.congr (fun k => by rw [if_neg (by rw [decide_eq_false ha]; decide)]) (hb fun h => ha h.1)
theorem mulDiv_i (a b c : Int) : Ev (fun k => impl_MulDiv.f k a b c) (mdR a b c) := by
  unfold impl_MulDiv.f
  simp only [in_i, Option.bind_some]
  have bad : ∀ h : ¬ mdOk a b c, Ev (fun k => impl_MulDiv.j0 k a b c true) (mdR a b c) := fun h => by
    rw [md_no h]
    exact Ev_one fun k => by simp only [impl_MulDiv.j0]; rw [if_pos trivial]
  refine gates (fun k z => impl_MulDiv.j0 k a b c z) _ (fun h => bad fun g => h ⟨g.1, g.2.1, g.2.2.1⟩) fun ha hb hc => ?_
  · · ·
        obtain ⟨a0, a1⟩ := ha
        obtain ⟨b0, b1⟩ := hb
        obtain ⟨c0, c1⟩ := hc
        have hp0 : 0 ≤ a * b := Int.mul_nonneg a0 b0
        have hp1 : a * b ≤ 1000000000000000 * 1000000000000000 := Int.mul_le_mul a1 b1 b0 (by decide)
        have hm : bits_Mul64.f a b = some (a * b / 18446744073709551616, a * b % 18446744073709551616) := by
          unfold bits_Mul64.f
          rw [mul64 a b a0 (by omega) b0 (by omega), u64w]
        have e : ∀ k, impl_MulDiv.j0 (k + 1) a b c false = if a * b / 18446744073709551616 ≥ c then some (0, 0, false) else (bits_Div64.f k (a * b / 18446744073709551616) (a * b % 18446744073709551616) c).bind fun z => (if z.1 > 1000000000000000 then (some (0, 0, false)) else (some (wrap64 z.1, wrap64 z.2, true))) := by
          intro k
          simp only [impl_MulDiv.j0]
          rw [if_neg (by decide), u64w_id a a0 (by omega), u64w_id b b0 (by omega), u64w_id c (by omega) (by omega), hm, Option.bind_some]
        have hq0 : 0 ≤ a * b / c := Int.ediv_nonneg hp0 (by omega)
        have hr0 : 0 ≤ a * b % c := Int.emod_nonneg _ (by omega)
        have hr1 : a * b % c < c := Int.emod_lt_of_pos _ (by omega)
        refine Ev.step e ?_
        by_cases hh : a * b / 18446744073709551616 ≥ c
        · have hno : ¬ mdOk a b c := fun h => by
            have h4 := h.2.2.2
            have h5 : 18446744073709551616 ≤ a * b / c := by
              rw [Int.le_ediv_iff_mul_le (by omega)]
              omega
            omega
          rw [md_no hno]
          exact Ev_all_k fun k => if_pos hh
        · refine Ev.congr (fun k => if_neg hh) ?_
          have hd := div64 (a * b / 18446744073709551616) (a * b % 18446744073709551616) c (by omega) (by omega) (by omega) (by omega) (by omega)
          rw [show a * b / 18446744073709551616 * 18446744073709551616 + a * b % 18446744073709551616 = a * b by omega] at hd
          refine Ev_bind hd (Ev_all_k fun k => ?_)
          by_cases hq : a * b / c ≤ 1000000000000000
          · rw [md_yes ⟨⟨a0, a1⟩, ⟨b0, b1⟩, ⟨c0, c1⟩, hq⟩, if_neg (by show ¬ a * b / c > _; omega)]
            show some (wrap64 (a * b / c), wrap64 (a * b % c), true) = _
            rw [w64_id _ (by omega) (by omega), w64_id _ (by omega) (by omega)]
          · rw [md_no (fun h => hq h.2.2.2), if_pos (by show a * b / c > _; omega)]
theorem some_s (x lo : Int) : spec_l1Some.f x lo = some (decide (lo ≤ x ∧ x ≤ 1000000000000000)) := by
  unfold spec_l1Some.f
  rw [in_s]
  rfl
theorem bit_is (a : Int) (i : Nat) (h0 : 0 ≤ a) (h1 : a ≤ 1000000000000000) (hi : i ≤ 63) : Go.bits .and .i64 (shr .i64 a (i : Int)) 1 = a / 2 ^ i % 2 := by
  have e : shr .i64 a (i : Int) = a / 2 ^ i := by
    unfold shr
    rw [Int.toNat_natCast, Nat.min_eq_left (by show i ≤ 64; omega)]
  rw [e]
  have hp : (0 : Int) < 2 ^ i := Int.pow_pos (by decide)
  have d0 : 0 ≤ a / 2 ^ i := Int.ediv_nonneg h0 (Int.le_of_lt hp)
  have d1 : a / 2 ^ i ≤ a := Int.ediv_le_self _ h0
  exact bits_mask .i64 63 (by decide) (fun n a b => by rw [IntKind.wrap_i64]; have : (2 : Int) ^ 63 = 9223372036854775808 := by decide
                                                       omega) 1 (by decide) _ d0 (by have : (2 : Int) ^ 63 = 9223372036854775808 := by decide
                                                                                     omega)
theorem sl0 (a b c : Int) (a0 : 0 ≤ a) (a1 : a ≤ 1000000000000000) (b0 : 0 ≤ b) (b1 : b ≤ 1000000000000000) (c0 : 1 ≤ c) (c1 : c ≤ 1000000000000000) :
    ∀ (m : Nat) (q r : Int), m ≤ 51 → 0 ≤ r → r < c → 0 ≤ q → q ≤ 1000000000000000 → q * c + r = a / 2 ^ m * b →
      Ev (fun k => spec_MulDiv.l0 k a b c q r ((m : Int) - 1)) (if a * b / c ≤ 1000000000000000 then (a * b / c, a * b % c, true) else (0, 0, false)) := by
  intro m
  induction m with
  | zero =>
    intro q r _ r0 r1 q0 q1 e
    rw [show a / 2 ^ 0 = a by rw [Int.pow_zero, Int.ediv_one]] at e
    have hN : a * b = r + c * q := by rw [← e, Int.mul_comm c q]; omega
    have hd : a * b / c = q := by rw [hN, Int.add_mul_ediv_left _ _ (by omega), Int.ediv_eq_zero_of_lt r0 r1, Int.zero_add]
    have hm : a * b % c = r := by rw [hN, Int.add_mul_emod_self_left, Int.emod_eq_of_lt r0 r1]
    rw [hd, hm, if_pos q1]
    exact Ev_one fun k => by simp only [spec_MulDiv.l0]; rw [if_neg (by omega)]
  | succ m ih =>
    intro q r hm r0 r1 q0 q1 e
    have hp : (0 : Int) < 2 ^ m := Int.pow_pos (by decide)
    have hA : a / 2 ^ (m + 1) = a / 2 ^ m / 2 := by rw [Int.pow_succ, Int.ediv_ediv_of_nonneg (Int.le_of_lt hp)]
    have d0 : 0 ≤ a / 2 ^ m := Int.ediv_nonneg a0 (Int.le_of_lt hp)
    have d1 : a / 2 ^ m ≤ a := Int.ediv_le_self _ a0
    rw [hA] at e
    have hbit := bit_is a m a0 a1 (by omega)
    -- too great a quotient stays too great
    have big : ∀ q' r' : Int, q' * c + r' = a / 2 ^ m * b → 0 ≤ r' → 1000000000000000 < q' → ¬ a * b / c ≤ 1000000000000000 := by
      intro q' r' e' r0' hq' hle
      have h1 : a / 2 ^ m * b ≤ a * b := Int.mul_le_mul_of_nonneg_right d1 b0
      have h2 : q' ≤ a * b / c := by
        rw [Int.le_ediv_iff_mul_le (by omega)]
        omega
      omega
    -- the doubled pair
    obtain ⟨q2, r2, hw, z0, z1, y0, y1, e2⟩ : ∃ q2 r2 : Int, (∀ k, spec_MulDiv.l0 (k + 1) a b c q r ((m + 1 : Nat) - 1 : Int) = spec_MulDiv.j2 k a b c q2 r2 (m : Int)) ∧ 0 ≤ r2 ∧ r2 < c ∧ 0 ≤ q2 ∧ q2 ≤ 2000000000000001 ∧ q2 * c + r2 = 2 * (a / 2 ^ m / 2 * b) := by
      have w1 : wrap64 (2 * r) = 2 * r := w64_id _ (by omega) (by omega)
      have w2 : wrap64 (2 * q) = 2 * q := w64_id _ (by omega) (by omega)
      have hi : (((m + 1 : Nat) : Int) - 1) = (m : Int) := by omega
      by_cases h : 2 * r ≥ c
      · refine ⟨2 * q + 1, 2 * r - c, fun k => ?_, by omega, by omega, by omega, by omega, ?_⟩
        · rw [hi]
          simp only [spec_MulDiv.l0]
          rw [if_pos (by omega), w1, if_pos h, w2, w64_id (2 * q + 1) (by omega) (by omega), w64_id (2 * r - c) (by omega) (by omega)]
        · rw [Int.add_mul, Int.one_mul, Int.mul_assoc, ← e]
          omega
      · refine ⟨2 * q, 2 * r, fun k => ?_, by omega, by omega, by omega, by omega, ?_⟩
        · rw [hi]
          simp only [spec_MulDiv.l0]
          rw [if_pos (by omega), w1, if_neg h, w2]
        · rw [Int.mul_assoc, ← e]
          omega
    refine Ev.step hw ?_
    have hodd : a / 2 ^ m * b = 2 * (a / 2 ^ m / 2 * b) + a / 2 ^ m % 2 * b := by
      have : a / 2 ^ m = 2 * (a / 2 ^ m / 2) + a / 2 ^ m % 2 := by omega
      generalize a / 2 ^ m = x at *
      conv => lhs; rw [this, Int.add_mul, Int.mul_assoc]
    have go : ∀ q3 r3 : Int, 0 ≤ r3 → r3 < c → 0 ≤ q3 → q3 * c + r3 = a / 2 ^ m * b → (f : Nat → Option (Int × Int × Bool)) → (∀ k, f k = if q3 > 1000000000000000 then some (0, 0, false) else spec_MulDiv.l0 k a b c q3 r3 ((m : Int) - 1)) → Ev f (if a * b / c ≤ 1000000000000000 then (a * b / c, a * b % c, true) else (0, 0, false)) := by
      intro q3 r3 x0 x1 x2 e3 f hf
      by_cases hq : q3 > 1000000000000000
      · rw [if_neg (big q3 r3 e3 x0 (by omega))]
        exact Ev_all_k fun k => by rw [hf, if_pos hq]
      · exact Ev.congr (fun k => by rw [hf, if_neg hq]) (ih q3 r3 (by omega) x0 x1 x2 (by omega) e3)
    have wm : wrap64 ((m : Int) - 1) = (m : Int) - 1 := w64_id _ (by omega) (by omega)
    by_cases hb : a / 2 ^ m % 2 = 1
    · have t0 : 0 ≤ b / c := Int.ediv_nonneg b0 (by omega)
      have t1 : b / c ≤ b := Int.ediv_le_self _ b0
      have t2 : 0 ≤ b % c := Int.emod_nonneg _ (by omega)
      have t3 : b % c < c := Int.emod_lt_of_pos _ (by omega)
      have t4 : b / c * c + b % c = b := by have := Int.mul_ediv_add_emod b c; rw [Int.mul_comm]; exact this
      have td : Int.tdiv b c = b / c := Int.tdiv_eq_ediv_of_nonneg b0
      have tm : Int.tmod b c = b % c := Int.tmod_eq_emod_of_nonneg b0
      rw [hb, Int.one_mul] at hodd
      have w1 : wrap64 (r2 + b % c) = r2 + b % c := w64_id _ (by omega) (by omega)
      have w2 : wrap64 (b / c) = b / c := w64_id _ (by omega) (by omega)
      have w3 : wrap64 (q2 + b / c) = q2 + b / c := w64_id _ (by omega) (by omega)
      have w4 : wrap64 (q2 + b / c + 1) = q2 + b / c + 1 := w64_id _ (by omega) (by omega)
      by_cases h : r2 + b % c ≥ c
      · have w5 : wrap64 (r2 + b % c - c) = r2 + b % c - c := w64_id _ (by omega) (by omega)
        refine Ev.step (fun k => rfl) (go (q2 + b / c + 1) (r2 + b % c - c) (by omega) (by omega) (by omega) ?_ _ fun k => ?_)
        · rw [Int.add_mul, Int.add_mul, Int.one_mul, hodd, ← e2]
          omega
        · simp only [spec_MulDiv.j2]
          rw [if_pos (by omega), hbit, if_pos hb, if_neg (by omega), tm, td, w1, if_pos h, w2, w3, w4, w5, wm]
      · refine Ev.step (fun k => rfl) (go (q2 + b / c) (r2 + b % c) (by omega) (by omega) (by omega) ?_ _ fun k => ?_)
        · rw [Int.add_mul, hodd, ← e2]
          omega
        · simp only [spec_MulDiv.j2]
          rw [if_pos (by omega), hbit, if_pos hb, if_neg (by omega), tm, td, w1, if_neg h, w2, w3, wm]
    · have hb0 : a / 2 ^ m % 2 = 0 := by omega
      rw [hb0, Int.zero_mul, Int.add_zero] at hodd
      refine Ev.step (fun k => rfl) (go q2 r2 z0 z1 y0 (by rw [e2, hodd]) _ fun k => ?_)
      simp only [spec_MulDiv.j2]
      rw [if_pos (by omega), hbit, if_neg hb, wm]
theorem mulDiv_s (a b c : Int) : Ev (fun k => spec_MulDiv.f k a b c) (mdR a b c) := by
  unfold spec_MulDiv.f
  simp only [some_s, Option.bind_some]
  have bad : ∀ h : ¬ mdOk a b c, Ev (fun k => spec_MulDiv.j0 k a b c true) (mdR a b c) := fun h => by
    rw [md_no h]
    exact Ev_one fun k => by simp only [spec_MulDiv.j0]; rw [if_pos trivial]
  refine gates (fun k z => spec_MulDiv.j0 k a b c z) _ (fun h => bad fun g => h ⟨g.1, g.2.1, g.2.2.1⟩) fun ha hb hc => ?_
  · · ·
        refine Ev.step (f := fun k => spec_MulDiv.l0 k a b c 0 0 50) (fun k => by simp only [spec_MulDiv.j0]; rw [if_neg (by decide)]) ?_
        have h := sl0 a b c ha.1 ha.2 hb.1 hb.2 hc.1 hc.2 51 0 0 (Nat.le_refl _) (by omega) (by omega) (by omega) (by omega) (by
          rw [show a / 2 ^ 51 = 0 from Int.ediv_eq_zero_of_lt ha.1 (by have : (2 : Int) ^ 51 = 2251799813685248 := by decide
                                                                       omega)]
          simp)
        have e : mdR a b c = if a * b / c ≤ 1000000000000000 then (a * b / c, a * b % c, true) else (0, 0, false) := by
          by_cases hq : a * b / c ≤ 1000000000000000
          · rw [md_yes ⟨ha, hb, hc, hq⟩, if_pos hq]
          · rw [md_no (fun h => hq h.2.2.2), if_neg hq]
        rw [e]
        exact h
end Go.Proofs.Ytpnejhelandclaa.A2
namespace Go.Proofs.Ytpnejhelandclaa.W2
open Go Go.RowKit Go.Proofs.Ytpnejhelandclaa.P Go.Proofs.YtpnejhelandclaaW.PrintWords Go.Proofs.YtpnejhelandclaaW.PrintLast Go.Proofs.Ytpnejhelandclaa.EV Go.Proofs.Ytpnejhelandclaa.I1 Go.Proofs.Ytpnejhelandclaa.A2 Go.Proofs.Ytpnejhelandclaa.TI Go.Proofs.Ytpnejhelandclaa.W1
def InT (t : Int) : Prop := 0 ≤ t ∧ t ≤ 1000000000000000
instance (t : Int) : Decidable (InT t) := by unfold InT; exact inferInstance
open Classical in
noncomputable def quota (t : Int) (l : List Int) (i : Int) : Int × Int × Bool := if OkW l ∧ InT t ∧ 0 ≤ i ∧ i < l.length then mdR t (rd l i) l.sum else (0, 0, false)
theorem shareable_i (t : Int) (l : List Int) : Ev (fun k => impl_shareable.f k t l) (okW l && decide (InT t)) := by
  unfold impl_shareable.f
  refine Ev_bind (weightsOk_i l) (Ev_all_k fun k => ?_)
  cases okW l with
  | true => rw [if_pos rfl, in_i, Option.bind_some]; rfl
  | false => rw [if_neg (by decide)]; rfl
theorem quota_no {t : Int} {l : List Int} {i : Int} (h : ¬ (OkW l ∧ InT t ∧ 0 ≤ i ∧ i < l.length)) : quota t l i = (0, 0, false) := if_neg h
theorem quota_yes {t : Int} {l : List Int} {i : Int} (h : OkW l ∧ InT t ∧ 0 ≤ i ∧ i < l.length) : quota t l i = mdR t (rd l i) l.sum := if_pos h
theorem quota_i (t : Int) (l : List Int) (i : Int) : Ev (fun k => impl_ShareQuota.f k t l i) (quota t l i) := by
  unfold impl_ShareQuota.f
  refine Ev_bind (shareable_i t l) ?_
  by_cases h : OkW l
  · by_cases ht : InT t
    · have e : (okW l && decide (InT t)) = true := by rw [(okW_iff l).2 h, decide_eq_true ht]; rfl
      have hl := h.1
      refine Ev.congr (f := fun k => impl_ShareQuota.j0 k t l i (!decide (0 ≤ i ∧ i ≤ (l.length : Int) - 1))) (fun k => by rw [if_pos e, in_i, Option.bind_some, w64_in _ (by omega) (by omega)]) ?_
      by_cases hi : 0 ≤ i ∧ i ≤ (l.length : Int) - 1
      · rw [quota_yes ⟨h, ht, hi.1, by omega⟩]
        refine Ev.step (f := fun k => (impl_sumOf.f k l).bind fun t154 => ((impl_MulDiv.f k t (rd l i) t154).bind fun bt155 => (some (bt155.1, bt155.2.1, bt155.2.2)))) (fun k => by
          simp only [impl_ShareQuota.j0]
          rw [if_neg (by rw [decide_eq_true hi]; decide), if_pos hi.1, if_pos (by omega)]) ?_
        exact Ev_bind (all_i h.few) (Ev_bind (mulDiv_i _ _ _) (Ev_all_k fun k => rfl))
      · rw [quota_no fun g => hi ⟨g.2.2.1, by omega⟩]
        exact Ev_one fun k => by
          simp only [impl_ShareQuota.j0]
          rw [if_pos (by rw [decide_eq_false hi]; rfl)]
    · rw [quota_no fun g => ht g.2.1]
      refine Ev.congr (f := fun k => impl_ShareQuota.j0 k t l i true) (fun k => by rw [if_neg (by rw [decide_eq_false ht, Bool.and_false]; decide)]) ?_
      exact Ev_one fun k => by
        simp only [impl_ShareQuota.j0]
        rw [if_pos trivial]
  · rw [quota_no fun g => h g.1]
    refine Ev.congr (f := fun k => impl_ShareQuota.j0 k t l i true) (fun k => by rw [if_neg (by rw [okW_no h, Bool.false_and]; decide)]) ?_
    exact Ev_one fun k => by
      simp only [impl_ShareQuota.j0]
      rw [if_pos trivial]
theorem quota_s (t : Int) (l : List Int) (i : Int) : Ev (fun k => spec_ShareQuota.f k t l i) (quota t l i) := by
  unfold spec_ShareQuota.f
  refine Ev_bind (weightsOk_s l) ?_
  by_cases h : OkW l
  · by_cases ht : InT t
    · have hl := h.1
      refine Ev.congr (f := fun k => spec_ShareQuota.j0 k t l i (!decide (0 ≤ i ∧ i ≤ (l.length : Int) - 1))) (fun k => by rw [if_pos ((okW_iff l).2 h), some_s1, Option.bind_some, if_pos (decide_eq_true (show 0 ≤ t ∧ t ≤ 1000000000000000 from ht)), in_s, Option.bind_some, w64_in _ (by omega) (by omega)]) ?_
      by_cases hi : 0 ≤ i ∧ i ≤ (l.length : Int) - 1
      · rw [quota_yes ⟨h, ht, hi.1, by omega⟩]
        refine Ev.step (f := fun k => (spec_l2All.f k l).bind fun t136 => ((spec_MulDiv.f k t (rd l i) t136).bind fun bt137 => (some (bt137.1, bt137.2.1, bt137.2.2)))) (fun k => by
          simp only [spec_ShareQuota.j0]
          rw [if_neg (by rw [decide_eq_true hi]; decide), if_pos hi.1, if_pos (by omega)]) ?_
        exact Ev_bind (all_s h.few) (Ev_bind (mulDiv_s _ _ _) (Ev_all_k fun k => rfl))
      · rw [quota_no fun g => hi ⟨g.2.2.1, by omega⟩]
        exact Ev_one fun k => by
          simp only [spec_ShareQuota.j0]
          rw [if_pos (by rw [decide_eq_false hi]; rfl)]
    · rw [quota_no fun g => ht g.2.1]
      refine Ev.congr (f := fun k => spec_ShareQuota.j0 k t l i true) (fun k => by rw [if_pos ((okW_iff l).2 h), some_s1, Option.bind_some, if_neg (by unfold InT at ht; rw [decide_eq_false ht]; decide)]) ?_
      exact Ev_one fun k => by
        simp only [spec_ShareQuota.j0]
        rw [if_pos trivial]
  · rw [quota_no fun g => h g.1]
    refine Ev.congr (f := fun k => spec_ShareQuota.j0 k t l i true) (fun k => by rw [if_neg (by rw [okW_no h]; decide)]) ?_
    exact Ev_one fun k => by
      simp only [spec_ShareQuota.j0]
      rw [if_pos trivial]
end Go.Proofs.Ytpnejhelandclaa.W2
namespace Go.Proofs.Ytpnejhelandclaa.S1
section
variable {α : Type} (lt : α → α → Prop) [DecidableRel lt]
def mrg : List α → List α → List α
  | [], ys => ys
  | x :: xs, [] => x :: xs
  | x :: xs, y :: ys => if lt y x then y :: mrg (x :: xs) ys else x :: mrg xs (y :: ys)
termination_by xs ys => xs.length + ys.length
theorem mrg_nil (xs : List α) : mrg lt xs [] = xs := by cases xs <;> simp [mrg]
theorem nil_mrg (ys : List α) : mrg lt [] ys = ys := by simp [mrg]
theorem mrg_perm : ∀ (xs ys : List α), (mrg lt xs ys).Perm (xs ++ ys)
  | [], ys => by rw [nil_mrg]; exact List.Perm.refl _
  | x :: xs, [] => by rw [mrg_nil, List.append_nil]
  | x :: xs, y :: ys => by
    rw [mrg]
    split
    · refine ((mrg_perm (x :: xs) ys).cons y).trans ?_
      exact (List.perm_middle (l₁ := x :: xs) (l₂ := ys) (a := y)).symm
    · exact (mrg_perm xs (y :: ys)).cons x
termination_by xs ys => xs.length + ys.length
theorem mrg_halves : ∀ (A1 A2 B1 B2 : List α), (∀ x ∈ A1, ∀ y ∈ B2, ¬lt y x) → (∀ y ∈ B1, ∀ x ∈ A2, lt y x) → mrg lt (A1 ++ A2) (B1 ++ B2) = mrg lt A1 B1 ++ mrg lt A2 B2
  | [], A2, [], B2, _, _ => by simp [mrg]
  | [], [], y :: ys, B2, _, _ => by simp [mrg]
  | [], x :: xs, y :: ys, B2, h1, h2 => by
    have ih := mrg_halves [] (x :: xs) ys B2 (fun a ha => by cases ha) fun b hb a ha => h2 b (List.mem_cons_of_mem _ hb) a ha
    simp only [List.nil_append, List.cons_append, nil_mrg] at ih ⊢
    rw [mrg, if_pos (h2 y (List.mem_cons_self ..) x (List.mem_cons_self ..)), ih]
  | x :: xs, A2, [], [], _, _ => by simp [mrg_nil]
  | x :: xs, A2, [], y :: ys, h1, h2 => by
    have ih := mrg_halves xs A2 [] (y :: ys) (fun a ha => h1 a (List.mem_cons_of_mem _ ha)) fun b hb => by cases hb
    simp only [List.nil_append, List.cons_append, mrg_nil] at ih ⊢
    rw [mrg, if_neg (h1 x (List.mem_cons_self ..) y (List.mem_cons_self ..)), ih]
  | x :: xs, A2, y :: ys, B2, h1, h2 => by
    simp only [List.cons_append]
    by_cases h : lt y x
    · have ih := mrg_halves (x :: xs) A2 ys B2 h1 fun b hb => h2 b (List.mem_cons_of_mem _ hb)
      simp only [List.cons_append] at ih
      rw [mrg, if_pos h, ih, mrg, if_pos h, List.cons_append]
    · have ih := mrg_halves xs A2 (y :: ys) B2 (fun a ha => h1 a (List.mem_cons_of_mem _ ha)) h2
      simp only [List.cons_append] at ih
      rw [mrg, if_neg h, ih, mrg, if_neg h, List.cons_append]
termination_by A1 _ B1 _ => A1.length + B1.length
theorem mrg_pw (hT : ∀ {x y z : α}, lt x y → lt y z → lt x z) : ∀ (xs ys : List α), xs.Pairwise lt → ys.Pairwise lt → (∀ x ∈ xs, ∀ y ∈ ys, lt y x ∨ lt x y) → (mrg lt xs ys).Pairwise lt
  | [], ys, _, h, _ => by rw [nil_mrg]; exact h
  | x :: xs, [], h, _, _ => by rw [mrg_nil]; exact h
  | x :: xs, y :: ys, hx, hy, hk => by
    have hx2 := List.pairwise_cons.1 hx
    have hy2 := List.pairwise_cons.1 hy
    rw [mrg]
    split
    · rename_i hl
      refine List.pairwise_cons.2 ⟨fun z hz => ?_, mrg_pw hT (x :: xs) ys hx hy2.2 fun a ha b hb => hk a ha b (List.mem_cons_of_mem _ hb)⟩
      rcases List.mem_append.1 ((mrg_perm lt (x :: xs) ys).mem_iff.1 hz) with h | h
      · rcases List.mem_cons.1 h with e | h
        · rw [e]; exact hl
        · exact hT hl (hx2.1 z h)
      · exact hy2.1 z h
    · rename_i hl
      have hl2 : lt x y := (hk x (List.mem_cons_self ..) y (List.mem_cons_self ..)).resolve_left hl
      refine List.pairwise_cons.2 ⟨fun z hz => ?_, mrg_pw hT xs (y :: ys) hx2.2 hy fun a ha b hb => hk a (List.mem_cons_of_mem _ ha) b hb⟩
      rcases List.mem_append.1 ((mrg_perm lt xs (y :: ys)).mem_iff.1 hz) with h | h
      · exact hx2.1 z h
      · rcases List.mem_cons.1 h with e | h
        · rw [e]; exact hl2
        · exact hT hl2 (hy2.1 z h)
termination_by xs ys => xs.length + ys.length
end
end Go.Proofs.Ytpnejhelandclaa.S1
namespace Go.Proofs.Ytpnejhelandclaa.S2
open Go.Proofs.Ytpnejhelandclaa.S1
section
variable {α : Type} [Inhabited α]
def swap1 (l : List α) (i j : Nat) : List α := (l.set i (l.getD j default)).set j (l.getD i default)
def swapR (l : List α) (a b : Nat) : Nat → List α
  | 0 => l
  | n + 1 => swap1 (swapR l a b n) (a + n) (b + n)
theorem swap1_seg (P M Q : List α) (x y : α) : swap1 (P ++ x :: (M ++ y :: Q)) P.length (P.length + 1 + M.length) = P ++ y :: (M ++ x :: Q) := by
  have e1 : (P ++ x :: (M ++ y :: Q)).getD P.length default = x := by simp
  have e2 : (P ++ x :: (M ++ y :: Q)).getD (P.length + 1 + M.length) default = y := by
    rw [List.getD_eq_getElem?_getD, List.getElem?_append_right (by omega), show P.length + 1 + M.length - P.length = M.length + 1 by omega, List.getElem?_cons_succ, List.getElem?_append_right (Nat.le_refl _), Nat.sub_self]
    rfl
  unfold swap1
  rw [e1, e2, List.set_append_right _ _ (Nat.le_refl _), Nat.sub_self, List.set_cons_zero, List.set_append_right _ _ (by omega), show P.length + 1 + M.length - P.length = M.length + 1 by omega, List.set_cons_succ, List.set_append_right _ _ (Nat.le_refl _), Nat.sub_self, List.set_cons_zero]
theorem swapR_seg : ∀ (n : Nat) (P X M Y Q : List α), X.length = n → Y.length = n → swapR (P ++ (X ++ (M ++ (Y ++ Q)))) P.length (P.length + n + M.length) n = P ++ (Y ++ (M ++ (X ++ Q)))
  | 0, P, X, M, Y, Q, hx, hy => by
    rw [List.length_eq_zero_iff.1 hx, List.length_eq_zero_iff.1 hy]
    rfl
  | n + 1, P, X, M, Y, Q, hx, hy => by
    obtain ⟨X', x, rfl⟩ : ∃ X' x, X = X' ++ [x] := ⟨X.dropLast, X.getLast (by intro h; rw [h] at hx; cases hx), (List.dropLast_concat_getLast _).symm⟩
    obtain ⟨Y', y, rfl⟩ : ∃ Y' y, Y = Y' ++ [y] := ⟨Y.dropLast, Y.getLast (by intro h; rw [h] at hy; cases hy), (List.dropLast_concat_getLast _).symm⟩
    have hx' : X'.length = n := by simpa using hx
    have hy' : Y'.length = n := by simpa using hy
    have ih := swapR_seg n P X' ([x] ++ M) Y' ([y] ++ Q) hx' hy'
    have e : P.length + n + ([x] ++ M).length = P.length + (n + 1) + M.length := by simp; omega
    rw [e] at ih
    have e2 : P ++ ((X' ++ [x]) ++ (M ++ ((Y' ++ [y]) ++ Q))) = P ++ (X' ++ (([x] ++ M) ++ (Y' ++ ([y] ++ Q)))) := by simp
    rw [swapR, e2, ih]
    have h := swap1_seg (P ++ Y') (M ++ X') Q x y
    have l1 : (P ++ Y').length = P.length + n := by simp [hy']
    have l2 : (P ++ Y').length + 1 + (M ++ X').length = P.length + (n + 1) + M.length + n := by simp [hx', hy']; omega
    rw [l2, l1] at h
    have e3 : P ++ (Y' ++ (([x] ++ M) ++ (X' ++ ([y] ++ Q)))) = (P ++ Y') ++ x :: ((M ++ X') ++ y :: Q) := by simp
    rw [e3, h]
    simp
def rot (l : List α) (m : Nat) : Nat → Nat → Nat → List α
  | 0, _, _ => l
  | k + 1, i, j => if i = j then swapR l (m - i) m i else if i > j then rot (swapR l (m - i) m j) m k (i - j) j else rot (swapR l (m - i) (m + j - i) i) m k i (j - i)
theorem rot_seg : ∀ (k : Nat) (P X Y Q : List α), X.length + Y.length ≤ k → 0 < X.length → 0 < Y.length → rot (P ++ (X ++ (Y ++ Q))) (P.length + X.length) k X.length Y.length = P ++ (Y ++ (X ++ Q))
  | 0, P, X, Y, Q, h, h0, _ => by omega
  | k + 1, P, X, Y, Q, h, h0, h1 => by
    rw [rot]
    split
    · rename_i e
      have := swapR_seg X.length P X [] Y Q rfl e.symm
      simp only [List.nil_append, List.length_nil, Nat.add_zero] at this
      rw [show P.length + X.length - X.length = P.length by omega]
      exact this
    · rename_i e
      split
      · rename_i g
        obtain ⟨X1, X2, rfl, hX1⟩ : ∃ X1 X2, X = X1 ++ X2 ∧ X1.length = Y.length := ⟨X.take Y.length, X.drop Y.length, (List.take_append_drop _ _).symm, by rw [List.length_take]; omega⟩
        have hs := swapR_seg Y.length P X1 X2 Y Q hX1 rfl
        have e1 : P ++ ((X1 ++ X2) ++ (Y ++ Q)) = P ++ (X1 ++ (X2 ++ (Y ++ Q))) := by simp
        have e2 : P.length + (X1 ++ X2).length = P.length + Y.length + X2.length := by rw [List.length_append]; omega
        rw [e1, e2, show P.length + Y.length + X2.length - (X1 ++ X2).length = P.length by rw [List.length_append]; omega, hs, show (X1 ++ X2).length - Y.length = X2.length by rw [List.length_append]; omega]
        have ih := rot_seg k (P ++ Y) X2 X1 Q (by rw [List.length_append] at h; omega) (by rw [List.length_append] at g; omega) (by omega)
        rw [hX1, List.length_append] at ih
        have e3 : P ++ (Y ++ (X2 ++ (X1 ++ Q))) = (P ++ Y) ++ (X2 ++ (X1 ++ Q)) := by simp
        rw [e3, ih]
        simp
      · rename_i g
        have g' : X.length < Y.length := by omega
        obtain ⟨Y1, Y2, rfl, hY2⟩ : ∃ Y1 Y2, Y = Y1 ++ Y2 ∧ Y2.length = X.length := ⟨Y.take (Y.length - X.length), Y.drop (Y.length - X.length), (List.take_append_drop _ _).symm, by rw [List.length_drop]; omega⟩
        have hs := swapR_seg X.length P X Y1 Y2 Q rfl hY2
        have e1 : P ++ (X ++ ((Y1 ++ Y2) ++ Q)) = P ++ (X ++ (Y1 ++ (Y2 ++ Q))) := by simp
        have hl : (Y1 ++ Y2).length = Y1.length + X.length := by rw [List.length_append, hY2]
        rw [e1, hl, show P.length + X.length - X.length = P.length by omega, show P.length + X.length + (Y1.length + X.length) - X.length = P.length + X.length + Y1.length by omega, hs, show Y1.length + X.length - X.length = Y1.length by omega]
        have ih := rot_seg k P Y2 Y1 (X ++ Q) (by rw [hl] at h; omega) (by omega) (by rw [hl] at g'; omega)
        rw [hY2] at ih
        have e3 : P ++ (Y2 ++ (Y1 ++ (X ++ Q))) = P ++ (Y2 ++ (Y1 ++ (X ++ Q))) := rfl
        rw [ih]
        simp
end
def bs (P : Nat → Bool) : Nat → Nat → Nat → Nat
  | 0, s, _ => s
  | k + 1, s, r => if s < r then (if P ((s + r) / 2) = true then bs P k ((s + r) / 2 + 1) r else bs P k s ((s + r) / 2)) else s
theorem bs_ok (P : Nat → Bool) : ∀ (k s r : Nat), r - s ≤ k → s ≤ r → (∀ c d, s ≤ c → c ≤ d → d < r → P d = true → P c = true) →
    s ≤ bs P k s r ∧ bs P k s r ≤ r ∧ (∀ c, s ≤ c → c < bs P k s r → P c = true) ∧ ∀ c, bs P k s r ≤ c → c < r → P c = false
  | 0, s, r, h, hs, _ => by
    simp only [bs]
    exact ⟨Nat.le_refl _, hs, fun c h1 h2 => by omega, fun c h1 h2 => by omega⟩
  | k + 1, s, r, h, hs, hm => by
    rw [bs]
    by_cases h0 : s < r
    · rw [if_pos h0]
      by_cases hp : P ((s + r) / 2) = true
      · rw [if_pos hp]
        obtain ⟨i1, i2, i3, i4⟩ := bs_ok P k ((s + r) / 2 + 1) r (by omega) (by omega) (fun c d h1 h2 h3 => hm c d (by omega) h2 h3)
        refine ⟨by omega, i2, fun c h1 h2 => ?_, i4⟩
        by_cases hc : c ≤ (s + r) / 2
        · exact hm c ((s + r) / 2) h1 hc (by omega) hp
        · exact i3 c (by omega) h2
      · rw [if_neg hp]
        obtain ⟨i1, i2, i3, i4⟩ := bs_ok P k s ((s + r) / 2) (by omega) (by omega) (fun c d h1 h2 h3 => hm c d h1 h2 (by omega))
        refine ⟨i1, by omega, i3, fun c h1 h2 => ?_⟩
        by_cases hc : c < (s + r) / 2
        · exact i4 c h1 hc
        · cases hq : P c with
          | false => rfl
          | true => exact absurd (hm ((s + r) / 2) c (by omega) (by omega) h2 hq) hp
    · rw [if_neg h0]
      exact ⟨Nat.le_refl _, hs, fun c h1 h2 => by omega, fun c h1 h2 => by omega⟩
end Go.Proofs.Ytpnejhelandclaa.S2
namespace Go.Proofs.Ytpnejhelandclaa.S3
open Go.Proofs.Ytpnejhelandclaa.S1 Go.Proofs.Ytpnejhelandclaa.S2
section
variable {α : Type} (lt : α → α → Prop) [DecidableRel lt]
theorem mrg_one (x : α) (B1 B2 : List α) (h1 : ∀ y ∈ B1, lt y x) (h2 : ∀ y ∈ B2, ¬lt y x) : mrg lt [x] (B1 ++ B2) = B1 ++ x :: B2 := by
  have h := mrg_halves lt [] [x] B1 B2 (fun a ha => by cases ha) (fun y hy a ha => by rw [List.mem_singleton.1 ha]; exact h1 y hy)
  rw [List.nil_append, nil_mrg] at h
  rw [h]
  have h3 := mrg_halves lt [x] [] [] B2 (fun a ha y hy => by rw [List.mem_singleton.1 ha]; exact h2 y hy) (fun y hy => by cases hy)
  rw [List.append_nil, List.nil_append, mrg_nil, nil_mrg] at h3
  rw [h3]
  rfl
theorem mrg_last (y : α) (A1 A2 : List α) (h1 : ∀ x ∈ A1, ¬lt y x) (h2 : ∀ x ∈ A2, lt y x) : mrg lt (A1 ++ A2) [y] = A1 ++ y :: A2 := by
  have h := mrg_halves lt A1 A2 [] [y] (fun x hx b hb => by rw [List.mem_singleton.1 hb]; exact h1 x hx) (fun b hb => by cases hb)
  rw [List.nil_append, mrg_nil] at h
  rw [h]
  have h3 := mrg_halves lt [] A2 [y] [] (fun a ha => by cases ha) (fun b hb x hx => by rw [List.mem_singleton.1 hb]; exact h2 x hx)
  rw [List.append_nil, List.nil_append, mrg_nil, nil_mrg] at h3
  rw [h3]
  rfl
end
section
variable {α : Type} [Inhabited α]
def up (l : List α) : Nat → Nat → List α
  | _, 0 => l
  | k, n + 1 => up (swap1 l k (k + 1)) (k + 1) n
def down (l : List α) : Nat → Nat → List α
  | _, 0 => l
  | k, n + 1 => down (swap1 l k (k - 1)) (k - 1) n
def symM (c : α → α → Bool) : Nat → List α → Nat → Nat → Nat → List α
  | 0, l, _, _, _ => l
  | k + 1, l, a, m, b =>
    if m - a = 1 then up l a (bs (fun h => c (l.getD h default) (l.getD a default)) (b - m) m b - 1 - a)
    else if b - m = 1 then down l m (m - bs (fun h => !c (l.getD m default) (l.getD h default)) (m - a) a m)
    else
      let mid := (a + b) / 2
      let s := bs (fun q => !c (l.getD (mid + m - 1 - q) default) (l.getD q default)) (b - a) (if m > mid then mid + m - b else a) (if m > mid then mid else m)
      let l1 := if s < m ∧ m < mid + m - s then rot l m (b - a) (m - s) (mid - s) else l
      let l2 := if a < s ∧ s < mid then symM c k l1 a s mid else l1
      if mid < mid + m - s ∧ mid + m - s < b then symM c k l2 mid (mid + m - s) b else l2
theorem up_seg : ∀ (Y P Q : List α) (x : α), up (P ++ x :: (Y ++ Q)) P.length Y.length = P ++ (Y ++ x :: Q)
  | [], P, Q, x => rfl
  | y :: Y, P, Q, x => by
    have h := swap1_seg P [] (Y ++ Q) x y
    simp only [List.nil_append, List.length_nil, Nat.add_zero] at h
    rw [List.length_cons, up]
    simp only [List.cons_append]
    rw [h]
    have ih := up_seg Y (P ++ [y]) Q x
    rw [List.length_append, List.length_singleton] at ih
    rw [show P ++ y :: x :: (Y ++ Q) = (P ++ [y]) ++ x :: (Y ++ Q) by simp, ih]
    simp
theorem swap1_comm (l : List α) (i j : Nat) (h : i ≠ j) : swap1 l i j = swap1 l j i := by
  unfold swap1
  exact List.set_comm _ _ h
theorem down_seg : ∀ (n : Nat) (X P Q : List α) (y : α), X.length = n → down (P ++ (X ++ y :: Q)) (P.length + n) n = P ++ y :: (X ++ Q)
  | 0, X, P, Q, y, h => by rw [List.length_eq_zero_iff.1 h]; rfl
  | n + 1, X, P, Q, y, h => by
    obtain ⟨X', x, rfl⟩ : ∃ X' x, X = X' ++ [x] := ⟨X.dropLast, X.getLast (by intro e; rw [e] at h; cases h), (List.dropLast_concat_getLast _).symm⟩
    have h' : X'.length = n := by simpa using h
    have hs := swap1_seg (P ++ X') [] Q x y
    simp only [List.nil_append, List.length_nil, Nat.add_zero] at hs
    have l1 : (P ++ X').length = P.length + n := by simp [h']
    rw [l1] at hs
    rw [down, show P.length + (n + 1) - 1 = P.length + n by omega, swap1_comm _ _ _ (by omega), show P.length + (n + 1) = P.length + n + 1 by omega, show P ++ ((X' ++ [x]) ++ y :: Q) = (P ++ X') ++ x :: y :: Q by simp, hs, show (P ++ X') ++ y :: x :: Q = P ++ (X' ++ y :: ([x] ++ Q)) by simp]
    rw [down_seg n X' P ([x] ++ Q) y h']
    simp
variable (lt : α → α → Prop)
theorem asc {A : List α} (h : A.Pairwise lt) {i j : Nat} (hij : i ≤ j) (hj : j < A.length) : A.getD i default = A.getD j default ∨ lt (A.getD i default) (A.getD j default) := by
  by_cases e : i = j
  · exact .inl (by rw [e])
  · right
    rw [List.getD_eq_getElem?_getD, List.getD_eq_getElem?_getD, List.getElem?_eq_getElem (by omega), List.getElem?_eq_getElem hj]
    exact (List.pairwise_iff_getElem.1 h) i j (by omega) hj (by omega)
theorem mem_getD {A : List α} {x : α} (h : x ∈ A) : ∃ i, i < A.length ∧ A.getD i default = x := by
  obtain ⟨i, hi, e⟩ := List.getElem_of_mem h
  exact ⟨i, hi, by rw [List.getD_eq_getElem?_getD, List.getElem?_eq_getElem hi]; exact e⟩
theorem getD_mem {A : List α} {i : Nat} (h : i < A.length) : A.getD i default ∈ A := by
  rw [List.getD_eq_getElem?_getD, List.getElem?_eq_getElem h]
  exact List.getElem_mem h
theorem getA (P A B Q : List α) (i : Nat) (h : i < A.length) : (P ++ (A ++ (B ++ Q))).getD (P.length + i) default = A.getD i default := by
  rw [List.getD_eq_getElem?_getD, List.getD_eq_getElem?_getD, List.getElem?_append_right (by omega), Nat.add_sub_cancel_left, List.getElem?_append_left h]
theorem getB (P A B Q : List α) (i : Nat) (h : i < B.length) : (P ++ (A ++ (B ++ Q))).getD (P.length + A.length + i) default = B.getD i default := by
  rw [List.getD_eq_getElem?_getD, List.getD_eq_getElem?_getD, List.getElem?_append_right (by omega), show P.length + A.length + i - P.length = A.length + i by omega, List.getElem?_append_right (by omega), Nat.add_sub_cancel_left, List.getElem?_append_left h]
theorem getD_take {A : List α} {i n : Nat} (h : i < n) : (A.take n).getD i default = A.getD i default := by
  rw [List.getD_eq_getElem?_getD, List.getD_eq_getElem?_getD, List.getElem?_take_of_lt h]
theorem getD_drop (A : List α) (i n : Nat) : (A.drop n).getD i default = A.getD (n + i) default := by
  rw [List.getD_eq_getElem?_getD, List.getD_eq_getElem?_getD, List.getElem?_drop]
variable [DecidableRel lt]
theorem symM_seg (c : α → α → Bool) (hT : ∀ {x y z : α}, lt x y → lt y z → lt x z) : ∀ (k : Nat) (P A B Q : List α), A.length + B.length ≤ k → 0 < A.length → 0 < B.length → A.Pairwise lt → B.Pairwise lt → (∀ y ∈ B, ∀ x ∈ A, (c y x = true ↔ lt y x)) →
    symM c k (P ++ (A ++ (B ++ Q))) P.length (P.length + A.length) (P.length + A.length + B.length) = P ++ (mrg lt A B ++ Q)
  | 0, P, A, B, Q, h, h0, _, _, _, _ => by omega
  | k + 1, P, A, B, Q, h, h0, h1, hA, hB, hc => by
    rw [symM]
    by_cases e1 : P.length + A.length - P.length = 1
    · rw [if_pos e1]
      obtain ⟨x, rfl⟩ : ∃ x, A = [x] := List.length_eq_one_iff.1 (by omega)
      have hx : (P ++ ([x] ++ (B ++ Q))).getD P.length default = x := by
        simp
      have gB : ∀ j, j < B.length → (P ++ ([x] ++ (B ++ Q))).getD (P.length + 1 + j) default = B.getD j default := fun j hj => getB P [x] B Q j hj
      have hm : ∀ j, j < B.length → (c (B.getD j default) x = true ↔ lt (B.getD j default) x) := fun j hj => hc _ (getD_mem hj) x (List.mem_cons_self ..)
      obtain ⟨i, hi⟩ : ∃ i, i = bs (fun h => c ((P ++ ([x] ++ (B ++ Q))).getD h default) ((P ++ ([x] ++ (B ++ Q))).getD P.length default)) (P.length + [x].length + B.length - (P.length + [x].length)) (P.length + [x].length) (P.length + [x].length + B.length) := ⟨_, rfl⟩
      have hb := bs_ok (fun h => c ((P ++ ([x] ++ (B ++ Q))).getD h default) ((P ++ ([x] ++ (B ++ Q))).getD P.length default)) (P.length + [x].length + B.length - (P.length + [x].length)) (P.length + [x].length) (P.length + [x].length + B.length) (by omega) (by omega) (by
        intro q d hq hd hr hp
        simp only [List.length_singleton] at hq hr
        obtain ⟨q', rfl⟩ : ∃ q', q = P.length + 1 + q' := ⟨q - (P.length + 1), by omega⟩
        obtain ⟨d', rfl⟩ : ∃ d', d = P.length + 1 + d' := ⟨d - (P.length + 1), by omega⟩
        simp only [hx] at hp ⊢
        rw [gB d' (by omega), hm d' (by omega)] at hp
        rw [gB q' (by omega), hm q' (by omega)]
        rcases asc lt hB (i := q') (j := d') (by omega) (by omega) with e | e
        · rw [e]; exact hp
        · exact hT e hp)
      rw [← hi] at hb ⊢
      obtain ⟨b1, b2, b3, b4⟩ := hb
      simp only [List.length_singleton, hx] at b1 b2 b3 b4
      obtain ⟨t, rfl⟩ : ∃ t, i = P.length + 1 + t := ⟨i - (P.length + 1), by omega⟩
      have ht : t ≤ B.length := by omega
      rw [show P.length + 1 + t - 1 - P.length = t by omega]
      have hu := up_seg (B.take t) P (B.drop t ++ Q) x
      rw [List.length_take, Nat.min_eq_left ht] at hu
      rw [show P ++ ([x] ++ (B ++ Q)) = P ++ x :: (B.take t ++ (B.drop t ++ Q)) by rw [← List.append_assoc (B.take t), List.take_append_drop]; rfl, hu]
      have hq := mrg_one lt x (B.take t) (B.drop t) (fun y hy => by
        obtain ⟨j, hj, rfl⟩ := mem_getD hy
        rw [List.length_take] at hj
        rw [getD_take (by omega), ← hm j (by omega), ← gB j (by omega)]
        exact b3 (P.length + 1 + j) (by omega) (by omega)) (fun y hy => by
        obtain ⟨j, hj, rfl⟩ := mem_getD hy
        rw [List.length_drop] at hj
        rw [getD_drop, ← hm (t + j) (by omega), ← gB (t + j) (by omega)]
        have := b4 (P.length + 1 + (t + j)) (by omega) (by omega)
        rw [this]
        decide)
      rw [List.take_append_drop] at hq
      rw [hq]
      simp
    · rw [if_neg e1]
      by_cases e2 : P.length + A.length + B.length - (P.length + A.length) = 1
      · rw [if_pos e2]
        obtain ⟨y, rfl⟩ : ∃ y, B = [y] := List.length_eq_one_iff.1 (by omega)
        have hy : (P ++ (A ++ ([y] ++ Q))).getD (P.length + A.length) default = y := by
          simp
        have gA : ∀ j, j < A.length → (P ++ (A ++ ([y] ++ Q))).getD (P.length + j) default = A.getD j default := fun j hj => getA P A [y] Q j hj
        have hm : ∀ j, j < A.length → (c y (A.getD j default) = true ↔ lt y (A.getD j default)) := fun j hj => hc y (List.mem_cons_self ..) _ (getD_mem hj)
        obtain ⟨i, hi⟩ : ∃ i, i = bs (fun h => !c ((P ++ (A ++ ([y] ++ Q))).getD (P.length + A.length) default) ((P ++ (A ++ ([y] ++ Q))).getD h default)) (P.length + A.length - P.length) P.length (P.length + A.length) := ⟨_, rfl⟩
        have hb := bs_ok (fun h => !c ((P ++ (A ++ ([y] ++ Q))).getD (P.length + A.length) default) ((P ++ (A ++ ([y] ++ Q))).getD h default)) (P.length + A.length - P.length) P.length (P.length + A.length) (by omega) (by omega) (by
          intro q d hq hd hr hp
          obtain ⟨q', rfl⟩ : ∃ q', q = P.length + q' := ⟨q - P.length, by omega⟩
          obtain ⟨d', rfl⟩ : ∃ d', d = P.length + d' := ⟨d - P.length, by omega⟩
          simp only [hy, Bool.not_eq_true'] at hp ⊢
          rw [gA d' (by omega)] at hp
          rw [gA q' (by omega)]
          cases hq2 : c y (A.getD q' default) with
          | false => rfl
          | true =>
            exfalso
            rw [hm q' (by omega)] at hq2
            have : lt y (A.getD d' default) := by
              rcases asc lt hA (i := q') (j := d') (by omega) (by omega) with e | e
              · rw [← e]; exact hq2
              · exact hT hq2 e
            rw [(hm d' (by omega)).2 this] at hp
            cases hp)
        rw [← hi] at hb ⊢
        obtain ⟨b1, b2, b3, b4⟩ := hb
        simp only [hy] at b3 b4
        obtain ⟨t, rfl⟩ : ∃ t, i = P.length + t := ⟨i - P.length, by omega⟩
        have ht : t ≤ A.length := by omega
        rw [show P.length + A.length - (P.length + t) = A.length - t by omega]
        have hd := down_seg (A.length - t) (A.drop t) (P ++ A.take t) Q y (by rw [List.length_drop])
        rw [List.length_append, List.length_take, Nat.min_eq_left ht, show P.length + t + (A.length - t) = P.length + A.length by omega] at hd
        rw [show P ++ (A ++ ([y] ++ Q)) = (P ++ A.take t) ++ (A.drop t ++ y :: Q) by rw [List.append_assoc, ← List.append_assoc (A.take t), List.take_append_drop]; rfl, hd]
        have hq := mrg_last lt y (A.take t) (A.drop t) (fun x hx => by
          obtain ⟨j, hj, rfl⟩ := mem_getD hx
          rw [List.length_take] at hj
          rw [getD_take (by omega), ← hm j (by omega), ← gA j (by omega)]
          have := b3 (P.length + j) (by omega) (by omega)
          rw [Bool.not_eq_true'] at this
          rw [this]
          decide) (fun x hx => by
          obtain ⟨j, hj, rfl⟩ := mem_getD hx
          rw [List.length_drop] at hj
          rw [getD_drop, ← hm (t + j) (by omega), ← gA (t + j) (by omega)]
          have := b4 (P.length + (t + j)) (by omega) (by omega)
          rwa [Bool.not_eq_false'] at this)
        rw [List.take_append_drop] at hq
        rw [hq]
        simp
      · rw [if_neg e2]
        have a2 : 2 ≤ A.length := by omega
        have b2 : 2 ≤ B.length := by omega
        dsimp only
        obtain ⟨mid, hmid⟩ : ∃ mid, mid = (P.length + (P.length + A.length + B.length)) / 2 := ⟨_, rfl⟩
        rw [← hmid]
        obtain ⟨lo, hlo⟩ : ∃ lo, lo = (if P.length + A.length > mid then mid + (P.length + A.length) - (P.length + A.length + B.length) else P.length) := ⟨_, rfl⟩
        obtain ⟨hi, hhi⟩ : ∃ hi, hi = (if P.length + A.length > mid then mid else P.length + A.length) := ⟨_, rfl⟩
        rw [← hlo, ← hhi]
        have hR : (P.length + A.length > mid ∧ lo + B.length = mid ∧ hi = mid) ∨ (P.length + A.length ≤ mid ∧ lo = P.length ∧ hi = P.length + A.length) := by
          by_cases hg : P.length + A.length > mid
          · rw [if_pos hg] at hlo hhi
            exact .inl ⟨hg, by omega, hhi⟩
          · rw [if_neg hg] at hlo hhi
            exact .inr ⟨by omega, hlo, hhi⟩
        clear hlo hhi
        have hA1 : ∀ i, i < A.length → (P ++ (A ++ (B ++ Q))).getD (P.length + i) default = A.getD i default := fun i h => getA P A B Q i h
        have hB1 : ∀ i, i < B.length → (P ++ (A ++ (B ++ Q))).getD (P.length + A.length + i) default = B.getD i default := fun i h => getB P A B Q i h
        have hm : ∀ i j, i < A.length → j < B.length → (c (B.getD j default) (A.getD i default) = true ↔ lt (B.getD j default) (A.getD i default)) := fun i j h g => hc _ (getD_mem g) _ (getD_mem h)
        have hP : ∀ q, lo ≤ q → q < hi → (!c ((P ++ (A ++ (B ++ Q))).getD (mid + (P.length + A.length) - 1 - q) default) ((P ++ (A ++ (B ++ Q))).getD q default)) = !c (B.getD (mid - 1 - q) default) (A.getD (q - P.length) default) := fun q h1 h2 => by
          have g1 := hA1 (q - P.length) (by omega)
          have g2 := hB1 (mid - 1 - q) (by omega)
          rw [show P.length + (q - P.length) = q by omega] at g1
          rw [show P.length + A.length + (mid - 1 - q) = mid + (P.length + A.length) - 1 - q by omega] at g2
          rw [g1, g2]
        obtain ⟨s, hs⟩ : ∃ s, s = bs (fun q => !c ((P ++ (A ++ (B ++ Q))).getD (mid + (P.length + A.length) - 1 - q) default) ((P ++ (A ++ (B ++ Q))).getD q default)) (P.length + A.length + B.length - P.length) lo hi := ⟨_, rfl⟩
        have hb := bs_ok (fun q => !c ((P ++ (A ++ (B ++ Q))).getD (mid + (P.length + A.length) - 1 - q) default) ((P ++ (A ++ (B ++ Q))).getD q default)) (P.length + A.length + B.length - P.length) lo hi (by omega) (by omega) (by
          intro q d hq hd hr hp
          rw [hP d (by omega) hr, Bool.not_eq_true'] at hp
          rw [hP q hq (by omega), Bool.not_eq_true']
          cases hq2 : c (B.getD (mid - 1 - q) default) (A.getD (q - P.length) default) with
          | false => rfl
          | true =>
            exfalso
            rw [hm _ _ (by omega) (by omega)] at hq2
            have f1 : lt (B.getD (mid - 1 - d) default) (A.getD (q - P.length) default) := by
              rcases asc lt hB (i := mid - 1 - d) (j := mid - 1 - q) (by omega) (by omega) with e | e
              · rw [e]; exact hq2
              · exact hT e hq2
            have f2 : lt (B.getD (mid - 1 - d) default) (A.getD (d - P.length) default) := by
              rcases asc lt hA (i := q - P.length) (j := d - P.length) (by omega) (by omega) with e | e
              · rw [← e]; exact f1
              · exact hT f1 e
            rw [(hm _ _ (by omega) (by omega)).2 f2] at hp
            cases hp)
        rw [← hs] at hb ⊢
        clear hs
        obtain ⟨q1, q2, q3, q4⟩ := hb
        obtain ⟨t, ht⟩ : ∃ t, t = s - P.length := ⟨_, rfl⟩
        obtain ⟨u, hu⟩ : ∃ u, u = mid - s := ⟨_, rfl⟩
        have t1 : t ≤ A.length := by omega
        have u1 : u ≤ B.length := by omega
        have lA1 : (A.take t).length = t := by rw [List.length_take, Nat.min_eq_left t1]
        have lB1 : (B.take u).length = u := by rw [List.length_take, Nat.min_eq_left u1]
        have lA2 : (A.drop t).length = A.length - t := List.length_drop
        have lB2 : (B.drop u).length = B.length - u := List.length_drop
        have hh1 : ∀ x ∈ A.take t, ∀ y ∈ B.drop u, ¬lt y x := fun x hx y hy hl => by
          obtain ⟨i, hi1, rfl⟩ := mem_getD hx
          obtain ⟨j, hj1, rfl⟩ := mem_getD hy
          rw [lA1] at hi1
          rw [lB2] at hj1
          rw [getD_take hi1, getD_drop] at hl
          have g := q3 (s - 1) (by omega) (by omega)
          rw [hP (s - 1) (by omega) (by omega), Bool.not_eq_true', show mid - 1 - (s - 1) = u by omega, show s - 1 - P.length = t - 1 by omega] at g
          have f1 : lt (B.getD u default) (A.getD i default) := by
            rcases asc lt hB (i := u) (j := u + j) (by omega) (by omega) with e | e
            · rw [e]; exact hl
            · exact hT e hl
          have f2 : lt (B.getD u default) (A.getD (t - 1) default) := by
            rcases asc lt hA (i := i) (j := t - 1) (by omega) (by omega) with e | e
            · rw [← e]; exact f1
            · exact hT f1 e
          rw [(hm _ _ (by omega) (by omega)).2 f2] at g
          cases g
        have hh2 : ∀ y ∈ B.take u, ∀ x ∈ A.drop t, lt y x := fun y hy x hx => by
          obtain ⟨j, hj1, rfl⟩ := mem_getD hy
          obtain ⟨i, hi1, rfl⟩ := mem_getD hx
          rw [lB1] at hj1
          rw [lA2] at hi1
          rw [getD_take hj1, getD_drop]
          have g := q4 s (Nat.le_refl _) (by omega)
          rw [hP s (by omega) (by omega), Bool.not_eq_false', show mid - 1 - s = u - 1 by omega, show s - P.length = t by omega, hm _ _ (by omega) (by omega)] at g
          have f1 : lt (B.getD j default) (A.getD t default) := by
            rcases asc lt hB (i := j) (j := u - 1) (by omega) (by omega) with e | e
            · rw [e]; exact g
            · exact hT e g
          rcases asc lt hA (i := t) (j := t + i) (by omega) (by omega) with e | e
          · rw [← e]; exact f1
          · exact hT f1 e
        have hmerge : mrg lt A B = mrg lt (A.take t) (B.take u) ++ mrg lt (A.drop t) (B.drop u) := by
          have := mrg_halves lt (A.take t) (A.drop t) (B.take u) (B.drop u) hh1 hh2
          rwa [List.take_append_drop, List.take_append_drop] at this
        have hAB : P ++ (A ++ (B ++ Q)) = P ++ (A.take t ++ (A.drop t ++ (B.take u ++ (B.drop u ++ Q)))) := by
          rw [← List.append_assoc (A.take t), List.take_append_drop, ← List.append_assoc (B.take u), List.take_append_drop]
        have s1 : (if s < P.length + A.length ∧ P.length + A.length < mid + (P.length + A.length) - s then rot (P ++ (A ++ (B ++ Q))) (P.length + A.length) (P.length + A.length + B.length - P.length) (P.length + A.length - s) (mid - s) else P ++ (A ++ (B ++ Q))) = P ++ (A.take t ++ (B.take u ++ (A.drop t ++ (B.drop u ++ Q)))) := by
          by_cases hr : s < P.length + A.length ∧ P.length + A.length < mid + (P.length + A.length) - s
          · rw [if_pos hr, hAB]
            have h := rot_seg (P.length + A.length + B.length - P.length) (P ++ A.take t) (A.drop t) (B.take u) (B.drop u ++ Q) (by rw [lA2, lB1]; omega) (by rw [lA2]; omega) (by rw [lB1]; omega)
            rw [lA2, lB1, List.length_append, lA1, show P.length + t + (A.length - t) = P.length + A.length by omega, show A.length - t = P.length + A.length - s by omega, hu] at h
            rw [List.append_assoc, List.append_assoc] at h
            rw [hu]
            exact h
          · rw [if_neg hr, hAB]
            by_cases h3 : s < P.length + A.length
            · have : u = 0 := by omega
              rw [this, List.take_zero]
              rfl
            · have : A.drop t = [] := List.drop_eq_nil_of_le (by omega)
              rw [this]
              rfl
        rw [s1]
        have s2 : (if P.length < s ∧ s < mid then symM c k (P ++ (A.take t ++ (B.take u ++ (A.drop t ++ (B.drop u ++ Q))))) P.length s mid else P ++ (A.take t ++ (B.take u ++ (A.drop t ++ (B.drop u ++ Q))))) = P ++ (mrg lt (A.take t) (B.take u) ++ (A.drop t ++ (B.drop u ++ Q))) := by
          by_cases hr : P.length < s ∧ s < mid
          · rw [if_pos hr]
            have h := symM_seg c hT k P (A.take t) (B.take u) (A.drop t ++ (B.drop u ++ Q)) (by rw [lA1, lB1]; omega) (by rw [lA1]; omega) (by rw [lB1]; omega) (hA.sublist (List.take_sublist _ _)) (hB.sublist (List.take_sublist _ _)) (fun y hy x hx => hc y (List.mem_of_mem_take hy) x (List.mem_of_mem_take hx))
            rw [lA1, lB1, show P.length + t = s by omega, show s + u = mid by omega] at h
            exact h
          · rw [if_neg hr]
            by_cases h3 : P.length < s
            · have : u = 0 := by omega
              rw [this, List.take_zero, mrg_nil]
              rfl
            · have : t = 0 := by omega
              rw [this, List.take_zero, nil_mrg]
              rfl
        rw [s2, hmerge]
        by_cases hr : mid < mid + (P.length + A.length) - s ∧ mid + (P.length + A.length) - s < P.length + A.length + B.length
        · rw [if_pos hr]
          have lM : (P ++ mrg lt (A.take t) (B.take u)).length = mid := by
            rw [List.length_append, (mrg_perm lt _ _).length_eq, List.length_append, lA1, lB1]
            omega
          have h := symM_seg c hT k (P ++ mrg lt (A.take t) (B.take u)) (A.drop t) (B.drop u) Q (by rw [lA2, lB2]; omega) (by rw [lA2]; omega) (by rw [lB2]; omega) (hA.sublist (List.drop_sublist _ _)) (hB.sublist (List.drop_sublist _ _)) (fun y hy x hx => hc y (List.mem_of_mem_drop hy) x (List.mem_of_mem_drop hx))
          rw [lM, lA2, lB2, show mid + (A.length - t) = mid + (P.length + A.length) - s by omega, show mid + (P.length + A.length) - s + (B.length - u) = P.length + A.length + B.length by omega, List.append_assoc, List.append_assoc] at h
          rw [h, List.append_assoc]
        · rw [if_neg hr, List.append_assoc]
          by_cases h3 : mid < mid + (P.length + A.length) - s
          · have : B.drop u = [] := List.drop_eq_nil_of_le (by omega)
            rw [this, mrg_nil]
            rfl
          · have : A.drop t = [] := List.drop_eq_nil_of_le (by omega)
            rw [this, nil_mrg]
            rfl
end
end Go.Proofs.Ytpnejhelandclaa.S3
namespace Go.Proofs.Ytpnejhelandclaa.S4
open Go.Proofs.Ytpnejhelandclaa.S1 Go.Proofs.Ytpnejhelandclaa.S2 Go.Proofs.Ytpnejhelandclaa.S3
section
variable {α : Type} (lt : α → α → Prop) [DecidableRel lt]
def insL (X : List α) : List α := X.foldl (fun acc y => mrg lt acc [y]) []
theorem insL_snoc (X : List α) (y : α) : insL lt (X ++ [y]) = mrg lt (insL lt X) [y] := by
  unfold insL
  rw [List.foldl_append]
  rfl
theorem insL_perm : ∀ (n : Nat) (X : List α), X.length = n → (insL lt X).Perm X
  | 0, X, h => by rw [List.length_eq_zero_iff.1 h]; exact List.Perm.refl _
  | n + 1, X, h => by
    obtain ⟨X', y, rfl⟩ : ∃ X' y, X = X' ++ [y] := ⟨X.dropLast, X.getLast (by intro e; rw [e] at h; cases h), (List.dropLast_concat_getLast _).symm⟩
    rw [insL_snoc]
    exact (mrg_perm lt _ _).trans ((insL_perm n X' (by simpa using h)).append_right _)
theorem insL_pw (hT : ∀ {x y z : α}, lt x y → lt y z → lt x z) : ∀ (n : Nat) (X : List α), X.length = n → X.Pairwise (fun x y => lt y x ∨ lt x y) → (insL lt X).Pairwise lt
  | 0, X, h, _ => by rw [List.length_eq_zero_iff.1 h]; exact List.Pairwise.nil
  | n + 1, X, h, hp => by
    obtain ⟨X', y, rfl⟩ : ∃ X' y, X = X' ++ [y] := ⟨X.dropLast, X.getLast (by intro e; rw [e] at h; cases h), (List.dropLast_concat_getLast _).symm⟩
    have h' : X'.length = n := by simpa using h
    have hq := List.pairwise_append.1 hp
    rw [insL_snoc]
    refine mrg_pw lt hT _ _ (insL_pw hT n X' h' hq.1) (List.pairwise_singleton _ _) fun x hx b hb => ?_
    rw [List.mem_singleton.1 hb]
    exact hq.2.2 x ((insL_perm lt n X' h').mem_iff.1 hx) y (List.mem_cons_self ..)
end
section
variable {α : Type} [Inhabited α]
def insJ (c : α → α → Bool) (a : Nat) : Nat → List α → List α
  | 0, l => l
  | n + 1, l => if c (l.getD (a + n + 1) default) (l.getD (a + n) default) = true then insJ c a n (swap1 l (a + n + 1) (a + n)) else l
def insI (c : α → α → Bool) (a : Nat) : Nat → List α → List α
  | 0, l => l
  | r + 1, l => insJ c a (r + 1) (insI c a r l)
def insSort (c : α → α → Bool) (l : List α) (a b : Nat) : List α := insI c a (b - a - 1) l
def stb (c : α → α → Bool) (l : List α) (n : Nat) : List α :=
  if n < 20 then insSort c l 0 n
  else
    let l1 := insSort c l 0 20
    if n < 40 then (if 20 < n then symM c n (insSort c l1 20 n) 0 20 n else insSort c l1 20 n)
    else symM c 40 (insSort c (insSort c l1 20 40) 40 n) 0 20 40
variable (lt : α → α → Prop) [DecidableRel lt]
theorem insJ_seg (c : α → α → Bool) (hT : ∀ {x y z : α}, lt x y → lt y z → lt x z) : ∀ (n : Nat) (A P Q : List α) (y : α), A.length = n → A.Pairwise lt → (∀ x ∈ A, (c y x = true ↔ lt y x)) → insJ c P.length n (P ++ (A ++ y :: Q)) = P ++ (mrg lt A [y] ++ Q)
  | 0, A, P, Q, y, h, _, _ => by
    rw [List.length_eq_zero_iff.1 h, nil_mrg]
    rfl
  | n + 1, A, P, Q, y, h, hA, hc => by
    obtain ⟨A', x, rfl⟩ : ∃ A' x, A = A' ++ [x] := ⟨A.dropLast, A.getLast (by intro e; rw [e] at h; cases h), (List.dropLast_concat_getLast _).symm⟩
    have h' : A'.length = n := by simpa using h
    have e1 : P ++ ((A' ++ [x]) ++ y :: Q) = (P ++ A') ++ x :: ([] ++ y :: Q) := by simp
    have gx : (P ++ ((A' ++ [x]) ++ y :: Q)).getD (P.length + n) default = x := by
      rw [e1, ← h', ← List.length_append, List.getD_eq_getElem?_getD, List.getElem?_append_right (Nat.le_refl _), Nat.sub_self]
      rfl
    have gy : (P ++ ((A' ++ [x]) ++ y :: Q)).getD (P.length + n + 1) default = y := by
      rw [e1, ← h', ← List.length_append, List.getD_eq_getElem?_getD, List.getElem?_append_right (by omega), Nat.add_sub_cancel_left]
      rfl
    have hx : c y x = true ↔ lt y x := hc x (by simp)
    have hpw := List.pairwise_append.1 hA
    rw [insJ, gx, gy]
    by_cases hl : lt y x
    · rw [if_pos (hx.2 hl), swap1_comm _ _ _ (by omega), e1]
      have hs := swap1_seg (P ++ A') [] Q x y
      rw [List.length_append, h', List.length_nil, Nat.add_zero] at hs
      rw [hs]
      have ih := insJ_seg c hT n A' P ([x] ++ Q) y h' hpw.1 (fun z hz => hc z (List.mem_append_left _ hz))
      rw [show P ++ A' ++ y :: ([] ++ x :: Q) = P ++ (A' ++ y :: ([x] ++ Q)) by simp, ih]
      have hm := mrg_halves lt A' [x] [y] [] (fun _ _ b hb => by cases hb) (fun b hb a ha => by rw [List.mem_singleton.1 ha, List.mem_singleton.1 hb]; exact hl)
      rw [List.append_nil, mrg_nil] at hm
      rw [hm]
      simp
    · rw [if_neg fun g => hl (hx.1 g)]
      have hm := mrg_last lt y (A' ++ [x]) [] (fun z hz g => by
        rcases List.mem_append.1 hz with hz | hz
        · exact hl (hT g (hpw.2.2 z hz x (List.mem_cons_self ..)))
        · rw [List.mem_singleton.1 hz] at g
          exact hl g) (fun z hz => by cases hz)
      rw [List.append_nil] at hm
      rw [hm]
      simp
theorem insI_seg (c : α → α → Bool) (hT : ∀ {x y z : α}, lt x y → lt y z → lt x z) : ∀ (r : Nat) (X P Q : List α), X.length = r + 1 → X.Pairwise (fun x y => lt y x ∨ lt x y) → X.Pairwise (fun x y => (c y x = true ↔ lt y x)) → insI c P.length r (P ++ (X ++ Q)) = P ++ (insL lt X ++ Q)
  | 0, X, P, Q, h, _, _ => by
    obtain ⟨x, rfl⟩ : ∃ x, X = [x] := List.length_eq_one_iff.1 (by omega)
    simp [insI, insL, mrg]
  | r + 1, X, P, Q, h, hp, hc => by
    obtain ⟨X', y, rfl⟩ : ∃ X' y, X = X' ++ [y] := ⟨X.dropLast, X.getLast (by intro e; rw [e] at h; cases h), (List.dropLast_concat_getLast _).symm⟩
    have h' : X'.length = r + 1 := by simpa using h
    have hq := List.pairwise_append.1 hp
    have hd := List.pairwise_append.1 hc
    have ih := insI_seg c hT r X' P ([y] ++ Q) h' hq.1 hd.1
    have hpm := insL_perm lt (r + 1) X' h'
    rw [insI, show P ++ ((X' ++ [y]) ++ Q) = P ++ (X' ++ ([y] ++ Q)) by simp, ih]
    have hj := insJ_seg lt c hT (r + 1) (insL lt X') P Q y (by rw [hpm.length_eq, h']) (insL_pw lt hT (r + 1) X' h' hq.1) (fun x hx => hd.2.2 x (hpm.mem_iff.1 hx) y (List.mem_cons_self ..))
    rw [insL_snoc]
    exact hj
theorem insSort_seg (c : α → α → Bool) (hT : ∀ {x y z : α}, lt x y → lt y z → lt x z) (X P Q : List α) (hp : X.Pairwise (fun x y => lt y x ∨ lt x y)) (hc : X.Pairwise (fun x y => (c y x = true ↔ lt y x))) : insSort c (P ++ (X ++ Q)) P.length (P.length + X.length) = P ++ (insL lt X ++ Q) := by
  unfold insSort
  rw [show P.length + X.length - P.length - 1 = X.length - 1 by omega]
  cases X with
  | nil => rfl
  | cons x xs => exact insI_seg lt c hT _ (x :: xs) P Q (by simp) hp hc
theorem stb_ok (c : α → α → Bool) (hT : ∀ {x y z : α}, lt x y → lt y z → lt x z) (X : List α) (hn : X.length ≤ 40) (hp : X.Pairwise (fun x y => lt y x ∨ lt x y)) (hc : X.Pairwise (fun x y => (c y x = true ↔ lt y x))) :
    (stb c X X.length).Perm X ∧ (stb c X X.length).Pairwise lt := by
  have whole := insSort_seg lt c hT X [] [] hp hc
  simp only [List.nil_append, List.append_nil, List.length_nil, Nat.zero_add] at whole
  unfold stb
  by_cases h20 : X.length < 20
  · rw [if_pos h20, whole]
    exact ⟨insL_perm lt _ X rfl, insL_pw lt hT _ X rfl hp⟩
  · rw [if_neg h20]
    dsimp only
    obtain ⟨A, B, rfl, hA⟩ : ∃ A B, X = A ++ B ∧ A.length = 20 := ⟨X.take 20, X.drop 20, (List.take_append_drop _ _).symm, by rw [List.length_take]; omega⟩
    have hpp := List.pairwise_append.1 hp
    have hcc := List.pairwise_append.1 hc
    have sA := insSort_seg lt c hT A [] B hpp.1 hcc.1
    simp only [List.nil_append, List.length_nil, Nat.zero_add] at sA
    rw [hA] at sA
    have pA := insL_perm lt _ A rfl
    have lA : (insL lt A).length = 20 := by rw [pA.length_eq, hA]
    have sB := insSort_seg lt c hT B (insL lt A) [] hpp.2.1 hcc.2.1
    rw [List.append_nil, List.append_nil, lA] at sB
    have pB := insL_perm lt _ B rfl
    have hN : (A ++ B).length = 20 + B.length := by rw [List.length_append, hA]
    have wA := insL_pw lt hT _ A rfl hpp.1
    have wB := insL_pw lt hT _ B rfl hpp.2.1
    rw [hN] at hn h20 ⊢
    have merged : 0 < B.length → ∀ k, 20 + B.length ≤ k → (symM c k (insL lt A ++ insL lt B) 0 20 (20 + B.length)).Perm (A ++ B) ∧ (symM c k (insL lt A ++ insL lt B) 0 20 (20 + B.length)).Pairwise lt := fun h0 k hk => by
      have hm := symM_seg lt c hT k [] (insL lt A) (insL lt B) [] (by rw [lA, pB.length_eq]; exact hk) (by omega) (by rw [pB.length_eq]; exact h0) wA wB (fun y hy x hx => hcc.2.2 x (pA.mem_iff.1 hx) y (pB.mem_iff.1 hy))
      simp only [List.nil_append, List.append_nil, List.length_nil, Nat.zero_add] at hm
      rw [lA, pB.length_eq] at hm
      rw [hm]
      exact ⟨(mrg_perm lt _ _).trans (pA.append pB), mrg_pw lt hT _ _ wA wB fun x hx y hy => hpp.2.2 x (pA.mem_iff.1 hx) y (pB.mem_iff.1 hy)⟩
    rw [sA]
    by_cases h40 : 20 + B.length < 40
    · rw [if_pos h40, sB]
      by_cases h0 : 20 < 20 + B.length
      · rw [if_pos h0]
        exact merged (by omega) _ (Nat.le_refl _)
      · rw [if_neg h0]
        have : B = [] := List.length_eq_zero_iff.1 (by omega)
        rw [this]
        refine ⟨pA.append_right _, ?_⟩
        rw [show insL lt ([] : List α) = [] from rfl, List.append_nil]
        exact wA
    · rw [if_neg h40]
      have hB : B.length = 20 := by omega
      have e40 : insSort c (insL lt A ++ B) 20 40 = insL lt A ++ insL lt B := by
        rw [hB] at sB
        exact sB
      have e0 : ∀ l : List α, insSort c l 40 (20 + B.length) = l := fun l => by
        unfold insSort
        rw [hB]
        rfl
      rw [e40, e0]
      have := merged (by omega) 40 (by omega)
      rw [hB] at this
      exact this
end
end Go.Proofs.Ytpnejhelandclaa.S4
namespace Go.Proofs.Ytpnejhelandclaa.S5
open Go Go.RowKit Go.Proofs.Ytpnejhelandclaa Go.Proofs.YtpnejhelandclaaW.PrintWords Go.Proofs.Ytpnejhelandclaa.EV Go.Proofs.Ytpnejhelandclaa.S2 Go.Proofs.Ytpnejhelandclaa.S3 Go.Proofs.Ytpnejhelandclaa.S4
theorem rdd (l : List Int) (i : Nat) : rd l (i : Int) = l.getD i default := by unfold rd; rw [Int.toNat_natCast]; rfl
theorem wadd (a b : Nat) (h : a + b ≤ 1000000) : wrap64 ((a : Int) + (b : Int)) = ((a + b : Nat) : Int) := by unfold wrap64; omega
theorem wsub (a b : Nat) (h : b ≤ a) (h' : a ≤ 1000000) : wrap64 ((a : Int) - (b : Int)) = ((a - b : Nat) : Int) := by unfold wrap64; omega
theorem wone (a : Nat) (h : a ≤ 1000000) : wrap64 ((a : Int) + 1) = ((a + 1 : Nat) : Int) := by unfold wrap64; omega
theorem wpre (a : Nat) (h : a ≤ 1000000) : wrap64 (((a + 1 : Nat) : Int) - 1) = (a : Int) := by unfold wrap64; omega
theorem half (a b : Nat) (h : a + b ≤ 1000000) : wrap64 ((IntKind.u64.wrap (wrap64 ((a : Int) + (b : Int)))) / 2) = (((a + b) / 2 : Nat) : Int) := by
  rw [wadd a b h, L1.u64w_id _ (by omega) (by omega)]
  unfold wrap64
  omega
theorem swap_set (l : List Int) (i j : Nat) : (l.set (i : Int).toNat (rd l (j : Int))).set (j : Int).toNat (rd l (i : Int)) = swap1 l i j := by
  unfold swap1
  rw [rdd, rdd, Int.toNat_natCast, Int.toNat_natCast]
def In (p : Int → Prop) (n : Nat) (l : List Int) : Prop := l.length = n ∧ ∀ e ∈ l, p e
section
variable {p : Int → Prop} {n : Nat} {l : List Int}
theorem In.get (h : In p n l) {i : Nat} (hi : i < n) : p (l.getD i default) := h.2 _ (getD_mem (by rw [h.1]; exact hi))
theorem In.swap (h : In p n l) {i j : Nat} (hi : i < n) (hj : j < n) : In p n (swap1 l i j) := by
  unfold swap1
  refine ⟨by rw [List.length_set, List.length_set]; exact h.1, fun e he => ?_⟩
  rcases List.mem_or_eq_of_mem_set he with he | rfl
  · rcases List.mem_or_eq_of_mem_set he with he | rfl
    · exact h.2 e he
    · exact h.get hj
  · exact h.get hi
theorem In.swapR (h : In p n l) {a b : Nat} : ∀ (q : Nat), a + q ≤ n → b + q ≤ n → In p n (swapR l a b q)
  | 0, _, _ => h
  | q + 1, ha, hb => (In.swapR h q (by omega) (by omega)).swap (by omega) (by omega)
end
theorem swapR_ev {p : Int → Prop} {n : Nat} (l : List Int) (a b q : Nat) (z : Int) (h : In p n l) (ha : a + q ≤ n) (hb : b + q ≤ n) (hn : n ≤ 1000) : Ev (fun k => SB.slices_swapRangeCmpFunc_int.f k l a b q z) (swapR l a b q) := by
  unfold SB.slices_swapRangeCmpFunc_int.f
  have key : ∀ (d i : Nat), q - i = d → i ≤ q → Ev (fun k => SB.slices_swapRangeCmpFunc_int.l0 k (swapR l a b i) a b q (i : Int)) (swapR l a b q) := by
    intro d
    induction d with
    | zero =>
      intro i hd hi
      obtain rfl : i = q := by omega
      exact Ev_one fun k => by
        simp only [SB.slices_swapRangeCmpFunc_int.l0]
        rw [if_neg (by omega)]
    | succ d ih =>
      intro i hd hi
      refine Ev.step (f := fun k => SB.slices_swapRangeCmpFunc_int.l0 k (swapR l a b (i + 1)) a b q ((i + 1 : Nat) : Int)) (fun k => ?_) (ih (i + 1) (by omega) (by omega))
      have hlen := (h.swapR (a := a) (b := b) i (by omega) (by omega)).1
      simp only [SB.slices_swapRangeCmpFunc_int.l0]
      rw [if_pos (by omega), wadd b i (by omega), wadd a i (by omega), wone i (by omega), if_pos (by omega), if_pos (by omega), if_pos (by omega), if_pos (by omega), swap_set]
      rfl
  exact key q 0 (by omega) (by omega)
theorem rot_ev {p : Int → Prop} {n : Nat} (hn : n ≤ 1000) (z : Int) : ∀ (k : Nat) (l : List Int) (m i j : Nat), In p n l → i + j ≤ k → 0 < i → 0 < j → i ≤ m → m + j ≤ n → In p n (rot l m k i j) ∧ Ev (fun f => SB.slices_rotateCmpFunc_int.l0 f l m z i j) (rot l m k i j)
  | 0, l, m, i, j, h, hk, hi, hj, hm, hl => by omega
  | k + 1, l, m, i, j, h, hk, hi, hj, hm, hl => by
    by_cases e : i = j
    · subst e
      rw [rot, if_pos rfl]
      refine ⟨h.swapR _ (by omega) (by omega), ?_⟩
      refine Ev.step (f := fun f => (SB.slices_swapRangeCmpFunc_int.f f l ((m - i : Nat) : Int) m i z).bind fun t => some t) (fun f => ?_) (Ev_bind (swapR_ev l (m - i) m i z h (by omega) (by omega) hn) (Ev.now _))
      simp only [SB.slices_rotateCmpFunc_int.l0]
      rw [if_pos trivial, wsub m i (by omega) (by omega)]
    · rw [rot, if_neg e]
      by_cases g : i > j
      · rw [if_pos g]
        have hs := h.swapR (a := m - i) (b := m) j (by omega) (by omega)
        have ih := rot_ev hn z k _ m (i - j) j hs (by omega) (by omega) (by omega) (by omega) (by omega)
        refine ⟨ih.1, ?_⟩
        refine Ev.step (f := fun f => (SB.slices_swapRangeCmpFunc_int.f f l ((m - i : Nat) : Int) m j z).bind fun t => SB.slices_rotateCmpFunc_int.l0 f t m z ((i - j : Nat) : Int) j) (fun f => ?_) (Ev_bind (swapR_ev l (m - i) m j z h (by omega) (by omega) hn) ih.2)
        simp only [SB.slices_rotateCmpFunc_int.l0]
        rw [if_neg (by omega), if_pos (by omega), wsub m i (by omega) (by omega), wsub i j (by omega) (by omega)]
      · rw [if_neg g]
        have hs := h.swapR (a := m - i) (b := m + j - i) i (by omega) (by omega)
        have ih := rot_ev hn z k _ m i (j - i) hs (by omega) (by omega) (by omega) (by omega) (by omega)
        refine ⟨ih.1, ?_⟩
        refine Ev.step (f := fun f => (SB.slices_swapRangeCmpFunc_int.f f l ((m - i : Nat) : Int) ((m + j - i : Nat) : Int) i z).bind fun t => SB.slices_rotateCmpFunc_int.l0 f t m z i ((j - i : Nat) : Int)) (fun f => ?_) (Ev_bind (swapR_ev l (m - i) (m + j - i) i z h (by omega) (by omega) hn) ih.2)
        simp only [SB.slices_rotateCmpFunc_int.l0]
        rw [if_neg (by omega), if_neg (by omega), wsub m i (by omega) (by omega), wadd m j (by omega), wsub (m + j) i (by omega) (by omega), wsub j i (by omega) (by omega)]
def CmpOk (c : X1.Cmp) (cb : Int → Int → Bool) (p : Int → Prop) : Prop := ∀ x y, p x → p y → ∃ t, c x y = some t ∧ (t < 0 ↔ cb x y = true)
section
variable {c : X1.Cmp} {cb : Int → Int → Bool} {p : Int → Prop} {n : Nat}
theorem CmpOk.yes (hc : CmpOk c cb p) {x y : Int} (hx : p x) (hy : p y) (e : cb x y = true) {β : Type} (A B : Option β) : ((c x y).bind fun t => if t < 0 then A else B) = A := by
  obtain ⟨t, ht, hi⟩ := hc x y hx hy
  rw [ht, Option.bind_some, if_pos (hi.2 e)]
theorem CmpOk.no (hc : CmpOk c cb p) {x y : Int} (hx : p x) (hy : p y) (e : ¬ cb x y = true) {β : Type} (A B : Option β) : ((c x y).bind fun t => if t < 0 then A else B) = B := by
  obtain ⟨t, ht, hi⟩ := hc x y hx hy
  rw [ht, Option.bind_some, if_neg (fun h => e (hi.1 h))]
theorem In.insJ {a : Nat} : ∀ (d : Nat) {l : List Int}, In p n l → a + d < n → In p n (insJ cb a d l)
  | 0, l, h, _ => h
  | d + 1, l, h, hd => by
    rw [S4.insJ]
    split
    · exact In.insJ d (h.swap (by omega) (by omega)) (by omega)
    · exact h
theorem In.insI {a : Nat} {l : List Int} (h : In p n l) : ∀ (r : Nat), a + r < n → In p n (insI cb a r l)
  | 0, _ => h
  | r + 1, hr => In.insJ (r + 1) (In.insI h r (by omega)) hr
theorem insJ_ev (hc : CmpOk c cb p) (hn : n ≤ 1000) (a : Nat) (b i : Int) : ∀ (d j : Nat) (l R : List Int), j = a + d → In p n l → a + d < n → Ev (fun k => SB.slices_insertionSortCmpFunc_int.l0 k (insJ cb a d l) a b c (wrap64 (i + 1))) R → Ev (fun k => SB.slices_insertionSortCmpFunc_int.l1 k l a b c i (j : Int)) R
  | 0, j, l, R, e, h, hd, hr => Ev.step (fun k => by
      simp only [SB.slices_insertionSortCmpFunc_int.l1]
      rw [if_neg (by omega)]
      rfl) hr
  | d + 1, j, l, R, e, h, hd, hr => by
    obtain rfl : j = a + d + 1 := by omega
    rw [S4.insJ] at hr
    have hl := h.1
    by_cases g : cb (l.getD (a + d + 1) default) (l.getD (a + d) default) = true
    · rw [if_pos g] at hr
      refine Ev.step (f := fun k => SB.slices_insertionSortCmpFunc_int.l1 k (swap1 l (a + d + 1) (a + d)) a b c i ((a + d : Nat) : Int)) (fun k => ?_) (insJ_ev hc hn a b i d (a + d) _ R rfl (h.swap (by omega) (by omega)) (by omega) hr)
      simp only [SB.slices_insertionSortCmpFunc_int.l1]
      rw [if_pos (by omega), if_pos (by omega), if_pos (by omega), wpre (a + d) (by omega), if_pos (by omega), if_pos (by omega), swap_set, rdd, rdd, hc.yes (h.get (by omega)) (h.get (by omega)) g]
    · rw [if_neg g] at hr
      refine Ev.step (fun k => ?_) hr
      simp only [SB.slices_insertionSortCmpFunc_int.l1]
      rw [if_pos (by omega), if_pos (by omega), if_pos (by omega), wpre (a + d) (by omega), if_pos (by omega), if_pos (by omega), rdd, rdd, hc.no (h.get (by omega)) (h.get (by omega)) g]
theorem ins_ev (hc : CmpOk c cb p) (hn : n ≤ 1000) (l : List Int) (h : In p n l) (a b : Nat) (hab : a ≤ b) (hb : b ≤ n) : Ev (fun k => SB.slices_insertionSortCmpFunc_int.f k l a b c) (insSort cb l a b) := by
  unfold SB.slices_insertionSortCmpFunc_int.f insSort
  have key : ∀ (d r : Nat), b - (a + r + 1) = d → a + r + 1 ≤ b → Ev (fun k => SB.slices_insertionSortCmpFunc_int.l0 k (insI cb a r l) a b c ((a + r + 1 : Nat) : Int)) (insI cb a (b - a - 1) l) := by
    intro d
    induction d with
    | zero =>
      intro r hd hr
      have e : b - a - 1 = r := by omega
      rw [e]
      exact Ev_one fun k => by
        simp only [SB.slices_insertionSortCmpFunc_int.l0]
        rw [if_neg (by omega)]
    | succ d ih =>
      intro r hd hr
      have hi := h.insI (cb := cb) (a := a) r (by omega)
      refine Ev.step (f := fun k => SB.slices_insertionSortCmpFunc_int.l1 k (insI cb a r l) a b c ((a + r + 1 : Nat) : Int) ((a + r + 1 : Nat) : Int)) (fun k => ?_) (insJ_ev hc hn a b _ (r + 1) (a + r + 1) _ _ (by omega) hi (by omega) ?_)
      · simp only [SB.slices_insertionSortCmpFunc_int.l0]
        rw [if_pos (by omega)]
      · rw [wone (a + r + 1) (by omega)]
        exact ih (r + 1) (by omega) (by omega)
  by_cases g : a + 1 ≤ b
  · rw [wone a (by omega)]
    exact key _ 0 rfl (by omega)
  · have e : b - a - 1 = 0 := by omega
    rw [e, wone a (by omega)]
    exact Ev_one fun k => by
      simp only [SB.slices_insertionSortCmpFunc_int.l0]
      rw [if_neg (by omega)]
      rfl
theorem In.insSort {l : List Int} (h : In p n l) (a b : Nat) (hab : a < b ∨ b ≤ a ∧ a < n) (hb : b ≤ n) : In p n (insSort cb l a b) := by
  unfold S4.insSort
  exact h.insI _ (by omega)
theorem bs_range (P : Nat → Bool) : ∀ (k s r : Nat), s ≤ r → s ≤ bs P k s r ∧ bs P k s r ≤ r
  | 0, s, r, h => ⟨Nat.le_refl _, h⟩
  | k + 1, s, r, h => by
    rw [bs]
    split
    · split
      · have := bs_range P k ((s + r) / 2 + 1) r (by omega)
        omega
      · have := bs_range P k s ((s + r) / 2) (by omega)
        omega
    · omega
theorem In.up {l : List Int} (h : In p n l) : ∀ (d q : Nat), q + d < n → In p n (up l q d)
  | 0, _, _ => h
  | d + 1, q, hq => In.up (h.swap (i := q) (j := q + 1) (by omega) (by omega)) d (q + 1) (by omega)
theorem In.down {l : List Int} (h : In p n l) : ∀ (d q : Nat), q < n → d ≤ q → In p n (down l q d)
  | 0, _, _, _ => h
  | d + 1, q, hq, hd => In.down (h.swap (i := q) (j := q - 1) (by omega) (by omega)) d (q - 1) (by omega) (by omega)
theorem up_ev (hn : n ≤ 1000) (i : Nat) : ∀ (d q : Nat) (l : List Int), i = q + 1 + d → In p n l → i ≤ n → Ev (fun k => SB.slices_symMergeCmpFunc_int.l1 k l i q) (up l q d)
  | 0, q, l, e, h, hi => Ev_one fun k => by
      simp only [SB.slices_symMergeCmpFunc_int.l1]
      rw [e, wpre q (by omega), if_neg (by omega)]
      rfl
  | d + 1, q, l, e, h, hi => by
    have hl := h.1
    refine Ev.step (f := fun k => SB.slices_symMergeCmpFunc_int.l1 k (swap1 l q (q + 1)) i ((q + 1 : Nat) : Int)) (fun k => ?_) (up_ev hn i d (q + 1) _ (by omega) (h.swap (by omega) (by omega)) hi)
    obtain ⟨i', rfl⟩ : ∃ i', i = i' + 1 := ⟨i - 1, by omega⟩
    simp only [SB.slices_symMergeCmpFunc_int.l1]
    rw [wpre i' (by omega), if_pos (by omega), wone q (by omega), if_pos (by omega), if_pos (by omega), if_pos (by omega), if_pos (by omega), swap_set]
theorem down_ev (hn : n ≤ 1000) (i : Nat) : ∀ (d q : Nat) (l : List Int), q = i + d → In p n l → q < n → Ev (fun k => SB.slices_symMergeCmpFunc_int.l3 k l i q) (down l q d)
  | 0, q, l, e, h, hi => Ev_one fun k => by
      simp only [SB.slices_symMergeCmpFunc_int.l3]
      rw [if_neg (by omega)]
      rfl
  | d + 1, q, l, e, h, hi => by
    have hl := h.1
    obtain ⟨q', rfl⟩ : ∃ q', q = q' + 1 := ⟨q - 1, by omega⟩
    refine Ev.step (f := fun k => SB.slices_symMergeCmpFunc_int.l3 k (swap1 l (q' + 1) q') i (q' : Int)) (fun k => ?_) (down_ev hn i d q' _ (by omega) (h.swap (by omega) (by omega)) (by omega))
    simp only [SB.slices_symMergeCmpFunc_int.l3]
    rw [if_pos (by omega), wpre q' (by omega), if_pos (by omega), if_pos (by omega), if_pos (by omega), if_pos (by omega), swap_set]
theorem srch0 (hc : CmpOk c cb p) (hn : n ≤ 1000) (l R : List Int) (a : Nat) (h : In p n l) (ha : a < n) : ∀ (f s r : Nat), r - s ≤ f → s ≤ r → r ≤ n →
    Ev (fun k => SB.slices_symMergeCmpFunc_int.l1 k l ((bs (fun q => cb (l.getD q default) (l.getD a default)) f s r : Nat) : Int) a) R → Ev (fun k => SB.slices_symMergeCmpFunc_int.l0 k l a c s r) R
  | 0, s, r, hf, hs, hr, hR => Ev.step (fun k => by
      simp only [SB.slices_symMergeCmpFunc_int.l0]
      rw [if_neg (by omega)]
      rfl) hR
  | f + 1, s, r, hf, hs, hr, hR => by
    have hl := h.1
    rw [bs] at hR
    by_cases g : s < r
    · rw [if_pos g] at hR
      by_cases e : cb (l.getD ((s + r) / 2) default) (l.getD a default) = true
      · rw [if_pos e] at hR
        refine Ev.step (fun k => ?_) (srch0 hc hn l R a h ha f ((s + r) / 2 + 1) r (by omega) (by omega) hr hR)
        simp only [SB.slices_symMergeCmpFunc_int.l0]
        rw [if_pos (by omega), half s r (by omega), if_pos (by omega), if_pos (by omega), if_pos (by omega), if_pos (by omega), rdd, rdd, hc.yes (h.get (by omega)) (h.get ha) e, wone _ (by omega)]
      · rw [if_neg e] at hR
        refine Ev.step (fun k => ?_) (srch0 hc hn l R a h ha f s ((s + r) / 2) (by omega) (by omega) (by omega) hR)
        simp only [SB.slices_symMergeCmpFunc_int.l0]
        rw [if_pos (by omega), half s r (by omega), if_pos (by omega), if_pos (by omega), if_pos (by omega), if_pos (by omega), rdd, rdd, hc.no (h.get (by omega)) (h.get ha) e]
    · rw [if_neg g] at hR
      refine Ev.step (fun k => ?_) hR
      simp only [SB.slices_symMergeCmpFunc_int.l0]
      rw [if_neg (by omega)]
theorem srch2 (hc : CmpOk c cb p) (hn : n ≤ 1000) (l R : List Int) (m : Nat) (h : In p n l) (hm : m < n) : ∀ (f s r : Nat), r - s ≤ f → s ≤ r → r ≤ n →
    Ev (fun k => SB.slices_symMergeCmpFunc_int.l3 k l ((bs (fun q => !cb (l.getD m default) (l.getD q default)) f s r : Nat) : Int) m) R → Ev (fun k => SB.slices_symMergeCmpFunc_int.l2 k l m c s r) R
  | 0, s, r, hf, hs, hr, hR => Ev.step (fun k => by
      simp only [SB.slices_symMergeCmpFunc_int.l2]
      rw [if_neg (by omega)]
      rfl) hR
  | f + 1, s, r, hf, hs, hr, hR => by
    have hl := h.1
    rw [bs] at hR
    by_cases g : s < r
    · rw [if_pos g] at hR
      by_cases e : cb (l.getD m default) (l.getD ((s + r) / 2) default) = true
      · rw [if_neg (by rw [e]; decide)] at hR
        refine Ev.step (fun k => ?_) (srch2 hc hn l R m h hm f s ((s + r) / 2) (by omega) (by omega) (by omega) hR)
        simp only [SB.slices_symMergeCmpFunc_int.l2]
        rw [if_pos (by omega), half s r (by omega), if_pos (by omega), if_pos (by omega), if_pos (by omega), if_pos (by omega), rdd, rdd, hc.yes (h.get hm) (h.get (by omega)) e]
      · rw [if_pos (by rw [Bool.eq_false_iff.2 e]; decide)] at hR
        refine Ev.step (fun k => ?_) (srch2 hc hn l R m h hm f ((s + r) / 2 + 1) r (by omega) (by omega) hr hR)
        simp only [SB.slices_symMergeCmpFunc_int.l2]
        rw [if_pos (by omega), half s r (by omega), if_pos (by omega), if_pos (by omega), if_pos (by omega), if_pos (by omega), rdd, rdd, hc.no (h.get hm) (h.get (by omega)) e, wone _ (by omega)]
    · rw [if_neg g] at hR
      refine Ev.step (fun k => ?_) hR
      simp only [SB.slices_symMergeCmpFunc_int.l2]
      rw [if_neg (by omega)]
theorem srch4 (hc : CmpOk c cb p) (hn : n ≤ 1000) (l R : List Int) (a m b mid N P : Nat) (h : In p n l) (hP : P ≤ 2000) : ∀ (f s r : Nat), r - s ≤ f → s ≤ r → r ≤ n → (∀ q, s ≤ q → q < r → q ≤ P ∧ P - q < n) →
    (∀ t, t = bs (fun q => !cb (l.getD (P - q) default) (l.getD q default)) f s r → Ev (fun k => if (t : Int) < (m : Int) then (SB.slices_symMergeCmpFunc_int.j6 k l a m b c mid t (wrap64 ((N : Int) - (t : Int))) (decide ((m : Int) < (wrap64 ((N : Int) - (t : Int)))))) else (SB.slices_symMergeCmpFunc_int.j6 k l a m b c mid t (wrap64 ((N : Int) - (t : Int))) false)) R) → Ev (fun k => SB.slices_symMergeCmpFunc_int.l4 k l a m b c mid N s r P) R
  | 0, s, r, hf, hs, hr, hq, hR => Ev.step (fun k => by
      simp only [SB.slices_symMergeCmpFunc_int.l4]
      rw [if_neg (by omega)]) (hR s rfl)
  | f + 1, s, r, hf, hs, hr, hq, hR => by
    have hl := h.1
    rw [bs] at hR
    by_cases g : s < r
    · rw [if_pos g] at hR
      have hh := hq ((s + r) / 2) (by omega) (by omega)
      by_cases e : cb (l.getD (P - (s + r) / 2) default) (l.getD ((s + r) / 2) default) = true
      · rw [if_neg (by rw [e]; decide)] at hR
        refine Ev.step (fun k => ?_) (srch4 hc hn l R a m b mid N P h hP f s ((s + r) / 2) (by omega) (by omega) (by omega) (fun q h1 h2 => hq q h1 (by omega)) hR)
        simp only [SB.slices_symMergeCmpFunc_int.l4]
        rw [if_pos (by omega), half s r (by omega), wsub P _ hh.1 (by omega), if_pos (by omega), if_pos (by omega), if_pos (by omega), if_pos (by omega), rdd, rdd, hc.yes (h.get hh.2) (h.get (by omega)) e]
      · rw [if_pos (by rw [Bool.eq_false_iff.2 e]; decide)] at hR
        refine Ev.step (fun k => ?_) (srch4 hc hn l R a m b mid N P h hP f ((s + r) / 2 + 1) r (by omega) (by omega) hr (fun q h1 h2 => hq q (by omega) h2) hR)
        simp only [SB.slices_symMergeCmpFunc_int.l4]
        rw [if_pos (by omega), half s r (by omega), wsub P _ hh.1 (by omega), if_pos (by omega), if_pos (by omega), if_pos (by omega), if_pos (by omega), rdd, rdd, hc.no (h.get hh.2) (h.get (by omega)) e, wone _ (by omega)]
    · rw [if_neg g] at hR
      refine Ev.step (fun k => ?_) (hR s rfl)
      simp only [SB.slices_symMergeCmpFunc_int.l4]
      rw [if_neg (by omega)]
end
end Go.Proofs.Ytpnejhelandclaa.S5
namespace Go.Proofs.Ytpnejhelandclaa.S6
open Go Go.RowKit Go.Proofs.Ytpnejhelandclaa Go.Proofs.YtpnejhelandclaaW.PrintWords Go.Proofs.Ytpnejhelandclaa.EV Go.Proofs.Ytpnejhelandclaa.S2 Go.Proofs.Ytpnejhelandclaa.S3 Go.Proofs.Ytpnejhelandclaa.S4 Go.Proofs.Ytpnejhelandclaa.S5
section
variable {c : X1.Cmp} {cb : Int → Int → Bool} {p : Int → Prop} {n : Nat}
def last2 (cb : Int → Int → Bool) (K : Nat) (l : List Int) (a s mid e b : Nat) : List Int :=
  let l2 := if a < s ∧ s < mid then symM cb K l a s mid else l
  if mid < e ∧ e < b then symM cb K l2 mid e b else l2
theorem j8_ev (K : Nat) (ih : ∀ (l : List Int) (a m b : Nat), In p n l → b - a ≤ K → a < m → m < b → b ≤ n → In p n (symM cb K l a m b) ∧ Ev (fun k => SB.slices_symMergeCmpFunc_int.f k l a m b c) (symM cb K l a m b))
    (l : List Int) (h : In p n l) (a s mid e b : Nat) (h1 : mid - a ≤ K) (h2 : b - mid ≤ K) (h3 : b ≤ n) (h4 : mid ≤ n) :
    In p n (last2 cb K l a s mid e b) ∧ Ev (fun k => SB.slices_symMergeCmpFunc_int.j7 k l a b c mid s e) (last2 cb K l a s mid e b) := by
  have tail : ∀ l2 : List Int, In p n l2 → In p n (if mid < e ∧ e < b then symM cb K l2 mid e b else l2) ∧
      Ev (fun k => if (mid : Int) < (e : Int) then (if (e : Int) < (b : Int) then ((SB.slices_symMergeCmpFunc_int.f k l2 mid e b c).bind fun t => some t) else some l2) else some l2) (if mid < e ∧ e < b then symM cb K l2 mid e b else l2) := by
    intro l2 hl2
    by_cases g : mid < e
    · by_cases g2 : e < b
      · rw [if_pos ⟨g, g2⟩]
        have := ih l2 mid e b hl2 h2 g g2 h3
        exact ⟨this.1, Ev.congr (fun k => by rw [if_pos (by omega), if_pos (by omega)]) (Ev_bind this.2 (Ev.now _))⟩
      · rw [if_neg (fun x => g2 x.2)]
        exact ⟨hl2, Ev_all_k fun k => by rw [if_pos (by omega), if_neg (by omega)]⟩
    · rw [if_neg (fun x => g x.1)]
      exact ⟨hl2, Ev_all_k fun k => by rw [if_neg (by omega)]⟩
  unfold last2
  dsimp only
  by_cases g : a < s ∧ s < mid
  · rw [if_pos g]
    have h5 := ih l a s mid h h1 g.1 g.2 h4
    have t := tail _ h5.1
    refine ⟨t.1, ?_⟩
    refine Ev.step (f := fun k => SB.slices_symMergeCmpFunc_int.j8 k l a b c mid s e true) (fun k => ?_) (Ev.step (f := fun k => (SB.slices_symMergeCmpFunc_int.f k l a s mid c).bind fun t234 => (if (mid : Int) < (e : Int) then (if (e : Int) < (b : Int) then ((SB.slices_symMergeCmpFunc_int.f k t234 mid e b c).bind fun t => some t) else some t234) else some t234)) (fun k => ?_) (Ev_bind h5.2 t.2))
    · simp only [SB.slices_symMergeCmpFunc_int.j7]
      rw [if_pos (by omega), decide_eq_true (by omega : (s : Int) < (mid : Int))]
    · simp only [SB.slices_symMergeCmpFunc_int.j8]
      rw [if_pos trivial]
  · rw [if_neg g]
    have t := tail _ h
    refine ⟨t.1, ?_⟩
    refine Ev.step (f := fun k => SB.slices_symMergeCmpFunc_int.j8 k l a b c mid s e false) (fun k => ?_) (Ev.step (f := fun k => (if (mid : Int) < (e : Int) then (if (e : Int) < (b : Int) then ((SB.slices_symMergeCmpFunc_int.f k l mid e b c).bind fun t => some t) else some l) else some l)) (fun k => ?_) t.2)
    · simp only [SB.slices_symMergeCmpFunc_int.j7]
      by_cases q : a < s
      · rw [if_pos (by omega), decide_eq_false (by omega : ¬ (s : Int) < (mid : Int))]
      · rw [if_neg (by omega)]
    · simp only [SB.slices_symMergeCmpFunc_int.j8]
      rw [if_neg (by decide)]
theorem symM_ev (hc : CmpOk c cb p) (hn : n ≤ 1000) : ∀ (K : Nat) (l : List Int) (a m b : Nat), In p n l → b - a ≤ K → a < m → m < b → b ≤ n → In p n (symM cb K l a m b) ∧ Ev (fun k => SB.slices_symMergeCmpFunc_int.f k l a m b c) (symM cb K l a m b)
  | 0, l, a, m, b, h, hk, h1, h2, h3 => by omega
  | K + 1, l, a, m, b, h, hk, h1, h2, h3 => by
    have hl := h.1
    rw [symM]
    by_cases e1 : m - a = 1
    · rw [if_pos e1]
      have hr := bs_range (fun q => cb (l.getD q default) (l.getD a default)) (b - m) m b (by omega)
      refine ⟨h.up _ _ (by omega), ?_⟩
      refine Ev.step (f := fun k => SB.slices_symMergeCmpFunc_int.l0 k l a c m b) (fun k => ?_) (srch0 hc hn l _ a h (by omega) (b - m) m b (by omega) (by omega) h3 (up_ev hn _ _ a l (by omega) h (by omega)))
      simp only [SB.slices_symMergeCmpFunc_int.f]
      rw [if_pos (by rw [wsub m a (by omega) (by omega)]; omega)]
    · rw [if_neg e1]
      by_cases e2 : b - m = 1
      · rw [if_pos e2]
        have hr := bs_range (fun q => !cb (l.getD m default) (l.getD q default)) (m - a) a m (by omega)
        refine ⟨h.down _ _ (by omega) (by omega), ?_⟩
        refine Ev.step (f := fun k => SB.slices_symMergeCmpFunc_int.l2 k l m c a m) (fun k => ?_) (srch2 hc hn l _ m h (by omega) (m - a) a m (by omega) (by omega) (by omega) (down_ev hn _ _ m l (by omega) h (by omega)))
        simp only [SB.slices_symMergeCmpFunc_int.f]
        rw [if_neg (by rw [wsub m a (by omega) (by omega)]; omega), if_pos (by rw [wsub b m (by omega) (by omega)]; omega)]
      · rw [if_neg e2]
        dsimp only
        obtain ⟨mid, hmid⟩ : ∃ mid, mid = (a + b) / 2 := ⟨_, rfl⟩
        rw [← hmid]
        obtain ⟨s0, hs0⟩ : ∃ s0, s0 = (if m > mid then mid + m - b else a) := ⟨_, rfl⟩
        obtain ⟨r0, hr0⟩ : ∃ r0, r0 = (if m > mid then mid else m) := ⟨_, rfl⟩
        rw [← hs0, ← hr0]
        have b0 : s0 ≤ r0 ∧ r0 ≤ m ∧ r0 ≤ mid ∧ a ≤ s0 ∧ mid + m - s0 ≤ b ∧ r0 - s0 ≤ b - a ∧ (∀ q, s0 ≤ q → q < r0 → q ≤ mid + m - 1 ∧ mid + m - 1 - q < n) := by
          by_cases g : m > mid
          · rw [if_pos g] at hs0 hr0
            exact ⟨by omega, by omega, by omega, by omega, by omega, by omega, fun q q1 q2 => by omega⟩
          · rw [if_neg g] at hs0 hr0
            exact ⟨by omega, by omega, by omega, by omega, by omega, by omega, fun q q1 q2 => by omega⟩
        obtain ⟨b1, b2, b3, b4, b5, b6, b7⟩ := b0
        have hr := bs_range (fun q => !cb (l.getD (mid + m - 1 - q) default) (l.getD q default)) (b - a) s0 r0 b1
        obtain ⟨s, hs⟩ : ∃ s, s = bs (fun q => !cb (l.getD (mid + m - 1 - q) default) (l.getD q default)) (b - a) s0 r0 := ⟨_, rfl⟩
        rw [← hs] at hr ⊢
        have ih := fun (l : List Int) (a m b : Nat) => symM_ev hc hn K l a m b
        -- the rotation
        have rotp : In p n (if s < m ∧ m < mid + m - s then rot l m (b - a) (m - s) (mid - s) else l) ∧ ∀ R, Ev (fun k => SB.slices_symMergeCmpFunc_int.j7 k (if s < m ∧ m < mid + m - s then rot l m (b - a) (m - s) (mid - s) else l) a b c mid s ((mid + m - s : Nat) : Int)) R →
            Ev (fun k => if (s : Int) < (m : Int) then (SB.slices_symMergeCmpFunc_int.j6 k l a m b c mid s (wrap64 (((mid + m : Nat) : Int) - (s : Int))) (decide ((m : Int) < (wrap64 (((mid + m : Nat) : Int) - (s : Int)))))) else (SB.slices_symMergeCmpFunc_int.j6 k l a m b c mid s (wrap64 (((mid + m : Nat) : Int) - (s : Int))) false)) R := by
          rw [wsub (mid + m) s (by omega) (by omega)]
          by_cases g : s < m ∧ m < mid + m - s
          · rw [if_pos g]
            have hrot := rot_ev hn 0 (b - a) l m (m - s) (mid - s) h (by omega) (by omega) (by omega) (by omega) (by omega)
            refine ⟨hrot.1, fun R hR => ?_⟩
            refine Ev.congr (f := fun k => SB.slices_symMergeCmpFunc_int.j6 k l a m b c mid s ((mid + m - s : Nat) : Int) true) (fun k => ?_) (Ev.step (f := fun k => (SB.slices_rotateCmpFunc_int.f k l s m ((mid + m - s : Nat) : Int) 0).bind fun t233 => SB.slices_symMergeCmpFunc_int.j7 k t233 a b c mid s ((mid + m - s : Nat) : Int)) (fun k => ?_) (Ev_bind ?_ hR))
            · rw [if_pos (by omega), decide_eq_true (by omega : (m : Int) < ((mid + m - s : Nat) : Int))]
            · simp only [SB.slices_symMergeCmpFunc_int.j6]
              rw [if_pos trivial]
            · unfold SB.slices_rotateCmpFunc_int.f
              rw [wsub m s (by omega) (by omega), wsub (mid + m - s) m (by omega) (by omega), show mid + m - s - m = mid - s by omega]
              exact hrot.2
          · rw [if_neg g]
            refine ⟨h, fun R hR => ?_⟩
            refine Ev.congr (f := fun k => SB.slices_symMergeCmpFunc_int.j6 k l a m b c mid s ((mid + m - s : Nat) : Int) false) (fun k => ?_) (Ev.step (fun k => ?_) hR)
            · by_cases q : s < m
              · rw [if_pos (by omega), decide_eq_false (by omega : ¬ (m : Int) < ((mid + m - s : Nat) : Int))]
              · rw [if_neg (by omega)]
            · simp only [SB.slices_symMergeCmpFunc_int.j6]
              rw [if_neg (by decide)]
        have fin := j8_ev (c := c) K ih _ rotp.1 a s mid (mid + m - s) b (by omega) (by omega) h3 (by omega)
        refine ⟨fin.1, ?_⟩
        refine Ev.step (f := fun k => SB.slices_symMergeCmpFunc_int.j4 k l a m b c mid ((mid + m : Nat) : Int) s0 r0) (fun k => ?_) (Ev.step (f := fun k => SB.slices_symMergeCmpFunc_int.l4 k l a m b c mid ((mid + m : Nat) : Int) s0 r0 ((mid + m - 1 : Nat) : Int)) (fun k => ?_) (srch4 hc hn l _ a m b mid (mid + m) (mid + m - 1) h (by omega) (b - a) s0 r0 b6 b1 (by omega) b7 (fun t ht => ?_)))
        · simp only [SB.slices_symMergeCmpFunc_int.f]
          rw [if_neg (by rw [wsub m a (by omega) (by omega)]; omega), if_neg (by rw [wsub b m (by omega) (by omega)]; omega), half a b (by omega), ← hmid, wadd mid m (by omega)]
          by_cases g : m > mid
          · rw [if_pos (by omega), wsub (mid + m) b (by omega) (by omega), hs0, hr0, if_pos g, if_pos g]
          · rw [if_neg (by omega), hs0, hr0, if_neg g, if_neg g]
        · simp only [SB.slices_symMergeCmpFunc_int.j4]
          have : wrap64 (((mid + m : Nat) : Int) - 1) = ((mid + m - 1 : Nat) : Int) := by unfold wrap64; omega
          rw [this]
        · obtain rfl : t = s := by rw [ht, hs]
          exact rotp.2 _ fin.2
theorem stb_ev (hc : CmpOk c cb p) (hn : n ≤ 40) (l : List Int) (h : In p n l) : Ev (fun k => SB.slices_stableCmpFunc_int.f k l (n : Int) c) (stb cb l n) := by
  have hn' : n ≤ 1000 := by omega
  unfold SB.slices_stableCmpFunc_int.f stb
  have e20 : wrap64 (20 + 20) = ((40 : Nat) : Int) := by unfold wrap64; omega
  have e40 : wrap64 (((40 : Nat) : Int) + 20) = ((60 : Nat) : Int) := by unfold wrap64; omega
  have e2 : wrap64 (2 * 20) = ((40 : Nat) : Int) := by unfold wrap64; omega
  have e3 : wrap64 (20 * 2) = ((40 : Nat) : Int) := by unfold wrap64; omega
  have e80 : wrap64 (((40 : Nat) : Int) + ((40 : Nat) : Int)) = ((80 : Nat) : Int) := by unfold wrap64; omega
  have e5 : wrap64 ((0 : Int) + 20) = ((20 : Nat) : Int) := by unfold wrap64; omega
  -- behind the blocks
  have done40 : ∀ l : List Int, Ev (fun k => SB.slices_stableCmpFunc_int.l1 k l (n : Int) c ((40 : Nat) : Int)) l := fun l => Ev_one fun k => by
    simp only [SB.slices_stableCmpFunc_int.l1]
    rw [if_neg (by omega)]
  by_cases h20 : n < 20
  · rw [if_pos h20]
    refine Ev.step (f := fun k => (SB.slices_insertionSortCmpFunc_int.f k l 0 n c).bind fun t => SB.slices_stableCmpFunc_int.l1 k t n c 20) (fun k => ?_) (Ev_bind (ins_ev hc hn' l h 0 n (by omega) (by omega)) (Ev_one fun k => ?_))
    · simp only [SB.slices_stableCmpFunc_int.l0]
      rw [if_neg (by omega)]
    · simp only [SB.slices_stableCmpFunc_int.l1]
      rw [if_neg (by omega)]
  · rw [if_neg h20]
    dsimp only
    have s1 := ins_ev hc hn' l h 0 20 (by omega) (by omega)
    have i1 := h.insSort (cb := cb) 0 20 (by omega) (by omega)
    refine Ev.step (f := fun k => (SB.slices_insertionSortCmpFunc_int.f k l 0 ((20 : Nat) : Int) c).bind fun t => SB.slices_stableCmpFunc_int.l0 k t n c 20 20 ((40 : Nat) : Int)) (fun k => ?_) (Ev_bind s1 ?_)
    · simp only [SB.slices_stableCmpFunc_int.l0]
      rw [if_pos (by omega), e20]
      rfl
    · by_cases h40 : n < 40
      · rw [if_pos h40]
        have s2 := ins_ev hc hn' _ i1 20 n (by omega) (by omega)
        refine Ev.step (f := fun k => (SB.slices_insertionSortCmpFunc_int.f k (insSort cb l 0 20) ((20 : Nat) : Int) n c).bind fun t => SB.slices_stableCmpFunc_int.l1 k t n c 20) (fun k => ?_) (Ev_bind s2 ?_)
        · simp only [SB.slices_stableCmpFunc_int.l0]
          rw [if_neg (by omega)]
          rfl
        · by_cases g : 20 < n
          · rw [if_pos g]
            have i2 := i1.insSort (cb := cb) 20 n (by omega) (by omega)
            have s3 := (symM_ev hc hn' n _ 0 20 n i2 (by omega) (by omega) (by omega) (by omega)).2
            refine Ev.step (f := fun k => SB.slices_stableCmpFunc_int.l2 k (insSort cb (insSort cb l 0 20) 20 n) n c 20 0 ((40 : Nat) : Int)) (fun k => ?_) (Ev.step (f := fun k => (SB.slices_symMergeCmpFunc_int.f k (insSort cb (insSort cb l 0 20) 20 n) ((0 : Nat) : Int) ((20 : Nat) : Int) n c).bind fun t => SB.slices_stableCmpFunc_int.l1 k t n c ((40 : Nat) : Int)) (fun k => ?_) (Ev_bind s3 (done40 _)))
            · simp only [SB.slices_stableCmpFunc_int.l1]
              rw [if_pos (by omega), e2]
            · simp only [SB.slices_stableCmpFunc_int.l2]
              rw [if_neg (by omega), e5, if_pos (by omega), e3]
              rfl
          · rw [if_neg g]
            exact Ev_one fun k => by
              simp only [SB.slices_stableCmpFunc_int.l1]
              rw [if_neg (by omega)]
      · rw [if_neg h40]
        obtain rfl : n = 40 := by omega
        have s2 := ins_ev hc hn' _ i1 20 40 (by omega) (by omega)
        have i2 := i1.insSort (cb := cb) 20 40 (by omega) (by omega)
        have s3 := ins_ev hc hn' _ i2 40 40 (by omega) (by omega)
        have i3 : In p 40 (insSort cb (insSort cb (insSort cb l 0 20) 20 40) 40 40) := i2
        have s4 := (symM_ev hc hn' 40 _ 0 20 40 i3 (by omega) (by omega) (by omega) (by omega)).2
        refine Ev.step (f := fun k => (SB.slices_insertionSortCmpFunc_int.f k (insSort cb l 0 20) ((20 : Nat) : Int) ((40 : Nat) : Int) c).bind fun t => SB.slices_stableCmpFunc_int.l0 k t ((40 : Nat) : Int) c 20 ((40 : Nat) : Int) ((60 : Nat) : Int)) (fun k => ?_) (Ev_bind s2 ?_)
        · simp only [SB.slices_stableCmpFunc_int.l0]
          rw [if_pos (by omega), e40]
          rfl
        · refine Ev.step (f := fun k => (SB.slices_insertionSortCmpFunc_int.f k (insSort cb (insSort cb l 0 20) 20 40) ((40 : Nat) : Int) ((40 : Nat) : Int) c).bind fun t => SB.slices_stableCmpFunc_int.l1 k t ((40 : Nat) : Int) c 20) (fun k => ?_) (Ev_bind s3 ?_)
          · simp only [SB.slices_stableCmpFunc_int.l0]
            rw [if_neg (by omega)]
          · refine Ev.step (f := fun k => SB.slices_stableCmpFunc_int.l2 k (insSort cb (insSort cb (insSort cb l 0 20) 20 40) 40 40) ((40 : Nat) : Int) c 20 0 ((40 : Nat) : Int)) (fun k => ?_) (Ev.step (f := fun k => (SB.slices_symMergeCmpFunc_int.f k (insSort cb (insSort cb (insSort cb l 0 20) 20 40) 40 40) ((0 : Nat) : Int) ((20 : Nat) : Int) ((40 : Nat) : Int) c).bind fun t => SB.slices_stableCmpFunc_int.l2 k t ((40 : Nat) : Int) c 20 ((40 : Nat) : Int) ((80 : Nat) : Int)) (fun k => ?_) (Ev_bind s4 (Ev.step (fun k => ?_) (done40 _))))
            · simp only [SB.slices_stableCmpFunc_int.l1]
              rw [if_pos (by omega), e2]
            · simp only [SB.slices_stableCmpFunc_int.l2]
              rw [if_pos (by omega), e5, e2, e80]
              rfl
            · simp only [SB.slices_stableCmpFunc_int.l2]
              rw [if_neg (by omega), e40, if_neg (by omega), e3]
end
end Go.Proofs.Ytpnejhelandclaa.S6
