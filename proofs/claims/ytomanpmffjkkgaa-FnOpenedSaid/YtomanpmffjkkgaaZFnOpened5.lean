/- What the law FnOpened leans on, cut out of this repo's own texts by a program of this repo: plain functions, the walks that tie the Go calls to them, the law over lists and numbers, and the row. -/
import Derived.Test.YtomanpmffjkkgaaZFnOpened4
import Derived.RowKit
import Derived.IntWalk
import Derived.SizedLaws
import Derived.ChangeSlices
namespace Go.Proofs.Ytomanpmffjkkgaa.P
end Go.Proofs.Ytomanpmffjkkgaa.P
namespace Go.Proofs.Ytomanpmffjkkgaa.EV
end Go.Proofs.Ytomanpmffjkkgaa.EV
namespace Go.Proofs.Ytomanpmffjkkgaa.I1
end Go.Proofs.Ytomanpmffjkkgaa.I1
namespace Go.Proofs.Ytomanpmffjkkgaa.N1
end Go.Proofs.Ytomanpmffjkkgaa.N1
namespace Go.Proofs.Ytomanpmffjkkgaa.E1
end Go.Proofs.Ytomanpmffjkkgaa.E1
namespace Go.Proofs.Ytomanpmffjkkgaa.E2
end Go.Proofs.Ytomanpmffjkkgaa.E2
namespace Go.Proofs.Ytomanpmffjkkgaa.E3
end Go.Proofs.Ytomanpmffjkkgaa.E3
namespace Go.Proofs.Ytomanpmffjkkgaa.L1
end Go.Proofs.Ytomanpmffjkkgaa.L1
namespace Go.Proofs.Ytomanpmffjkkgaa.E4
end Go.Proofs.Ytomanpmffjkkgaa.E4
namespace Go.Proofs.Ytomanpmffjkkgaa.E5
end Go.Proofs.Ytomanpmffjkkgaa.E5
namespace Go.Proofs.Ytomanpmffjkkgaa.E6
end Go.Proofs.Ytomanpmffjkkgaa.E6
namespace Go.Proofs.Ytomanpmffjkkgaa.E7
end Go.Proofs.Ytomanpmffjkkgaa.E7
namespace Go.Proofs.Ytomanpmffjkkgaa.D1
end Go.Proofs.Ytomanpmffjkkgaa.D1
namespace Go.Proofs.Ytomanpmffjkkgaa.E8
end Go.Proofs.Ytomanpmffjkkgaa.E8
namespace Go.Proofs.Ytomanpmffjkkgaa.D5
end Go.Proofs.Ytomanpmffjkkgaa.D5
namespace Go.Proofs.Ytomanpmffjkkgaa.P
open Go.RowKit Go.Proofs.YtomanpmffjkkgaaW.PrintWords Go.Proofs.YtomanpmffjkkgaaW.PrintLast Go.Proofs.YtomanpmffjkkgaaW.PrintMore
attribute [local go_sem] max2_int min2_int max_two min_two max_three min_three max_four min_four   -- for this text's walks alone
set_option linter.unusedVariables false
set_option linter.unusedSimpArgs false
attribute [local go_sem high] eqA37
mutual
def laws_FnOpened.j0 : Nat → List (S37) → Bool → Int → Int → Int → Int → Int → Option (Bool)
 | 0, _, _, _, _, _, _, _ => none
 | k + 1, x5, x86, x551000, x551001, x551002, x551003, x551004 => if x86 = true then (none) else ((impl_LotsOf.f x5 x551000 x551001).bind fun t564 => (laws_FnOpened.l0 k t564 (-1) (-1) 0 x551000 x551001 x551002 x551003 x551004))
def laws_FnOpened.l0 : Nat → List (S37) → Int → Int → Int → Int → Int → Int → Int → Int → Option (Bool)
 | 0, _, _, _, _, _, _, _, _, _ => none
 | k + 1, x9, x10, x11, x12, x551000, x551001, x551002, x551003, x551004 => if x12 < (x9.length : Int) then (if 0 ≤ x12 then (if (((rd_T37 x9 x12).f0) == x551000 && (((rd_T37 x9 x12).f1) == x551001 && (((rd_T37 x9 x12).f2) == x551002 && (((rd_T37 x9 x12).f3) == x551003 && (((rd_T37 x9 x12).f4) == x551004))))) = true then (if ((rd_T37 x9 x12).f2) > x551002 then (if x11 < 0 then (laws_FnOpened.l0 k x9 x12 x12 (wrap64 (x12 + 1)) x551000 x551001 x551002 x551003 x551004) else (laws_FnOpened.l0 k x9 x12 x11 (wrap64 (x12 + 1)) x551000 x551001 x551002 x551003 x551004)) else (laws_FnOpened.l0 k x9 x12 x11 (wrap64 (x12 + 1)) x551000 x551001 x551002 x551003 x551004)) else (if ((rd_T37 x9 x12).f2) > x551002 then (if x11 < 0 then (laws_FnOpened.l0 k x9 x10 x12 (wrap64 (x12 + 1)) x551000 x551001 x551002 x551003 x551004) else (laws_FnOpened.l0 k x9 x10 x11 (wrap64 (x12 + 1)) x551000 x551001 x551002 x551003 x551004)) else (laws_FnOpened.l0 k x9 x10 x11 (wrap64 (x12 + 1)) x551000 x551001 x551002 x551003 x551004))) else (none)) else (if x10 ≥ 0 then (if x11 < 0 then (some true) else (some (x11 == (wrap64 (x10 + 1))))) else (none))
end
def laws_FnOpened.f (k : Nat) (l0 : List Int) : Option (Bool) := (laws_big.f l0).bind fun t541 => (if t541 = true then (some true) else ((spec_DrawLotOpen.f k l0).bind fun bt542 => ((impl_LotOpen.f k bt542.1 bt542.2.1 bt542.2.2.1 bt542.2.2.2.1 bt542.2.2.2.2.1 bt542.2.2.2.2.2).bind fun bt551 => ((spec_LotOpen.f k bt542.1 bt542.2.1 bt542.2.2.1 bt542.2.2.2.1 bt542.2.2.2.2.1 bt542.2.2.2.2.2).bind fun bt555 => (if bt551.2 = bt555.2 then (if bt551.2 = 1 then (some ((bt551.1.length : Int) == 0)) else (if bt551.2 = 0 then ((impl_LotsQty.f k bt551.1 bt542.2.1 bt542.2.2.1).bind fun t560 => ((spec_LotsQty.f k bt542.1 bt542.2.1 bt542.2.2.1).bind fun t561 => (if t560 = (wrap64 (t561 + bt542.2.2.2.2.1)) then ((impl_LotsCost.f k bt551.1 bt542.2.1 bt542.2.2.1).bind fun t562 => ((spec_LotsCost.f k bt542.1 bt542.2.1 bt542.2.2.1).bind fun t563 => (if t562 = (wrap64 (t563 + bt542.2.2.2.2.2)) then (laws_FnOpened.j0 k bt551.1 ((bt551.1.length : Int) != (wrap64 ((bt542.1.length : Int) + 1))) bt542.2.1 bt542.2.2.1 bt542.2.2.2.1 bt542.2.2.2.2.1 bt542.2.2.2.2.2) else (none)))) else (none)))) else ((laws_sameLots.f k bt551.1 bt542.1).bind fun t559 => (some t559)))) else (none))))))
def laws_FnOpened.T12 : Bool × List (List Nat × List Nat) := (true, [([], []), ([], []), ([1], [1]), ([], []), ([3], [3]), ([0, 2, 4], [0, 2, 4]), ([], []), ([], []), ([7], [7]), ([], []), ([9], [9]), ([6, 8, 10, 5], [6, 8, 10]), ([], []), ([12], [12]), ([11, 13], [11, 13]), ([5, 14], [5, 14]), ([15, 11], [15]), ([16], [16]), ([16], [16]), ([18, 16], [16, 18]), ([16], [16]), ([20, 16], [16, 20]), ([17, 19, 21, 16, 16], [16, 17, 19, 21]), ([16], [16]), ([16], [16]), ([24, 16], [16, 24]), ([16], [16]), ([26, 16], [16, 26]), ([23, 25, 27, 22, 16], [16, 23, 25, 27]), ([16], [16]), ([29, 16], [16, 29]), ([28, 30, 16], [16, 28, 30]), ([22, 31, 16], [16, 22, 31]), ([16, 32], [16, 32]), ([33, 28], [33]), ([34], [34]), ([35, 34], [34, 35]), ([34], [34]), ([37, 34], [34, 37]), ([38, 34], [34, 38]), ([36, 39, 34], [34, 36, 39]), ([34, 40], [34, 40])])
def laws_FnOpened.B12 : List Nat := [0, 0, 2, 0, 8, 31, 0, 0, 128, 0, 512, 2047, 0, 4096, 16383, 32767, 65535, 131071, 131071, 393215, 131071, 1179647, 4194303, 131071, 131071, 16908287, 131071, 67239935, 268435455, 131071, 537001983, 2147483647, 4294967295, 8589934591, 17179869183, 34359738367, 68719476735, 34359738367, 171798691839, 446676598783, 1099511627775, 2199023255551]
theorem laws_FnOpened.tab12 : rtab .any (opsOf Try.f8 12) = laws_FnOpened.T12 := by kernel_rfl
theorem laws_FnOpened.bits12 : waitsOk laws_FnOpened.T12.2 laws_FnOpened.B12 = true := by kernel_rfl
def laws_FnOpened.T21 : Bool × List (List Nat × List Nat) := (true, [([], []), ([], []), ([0, 1], [0, 1]), ([2], [2]), ([3], [3]), ([], []), ([5], [5]), ([4, 6], [4, 6]), ([7], [7]), ([8], [8]), ([9, 8], [8, 9]), ([8, 10], [8, 10])])
def laws_FnOpened.B21 : List Nat := [0, 0, 3, 7, 15, 0, 32, 127, 255, 511, 1023, 2047]
theorem laws_FnOpened.tab21 : rtab .any (opsOf Try.f8 21) = laws_FnOpened.T21 := by kernel_rfl
theorem laws_FnOpened.bits21 : waitsOk laws_FnOpened.T21.2 laws_FnOpened.B21 = true := by kernel_rfl
set_option maxHeartbeats 8000000 in
set_option maxRecDepth 100000 in
theorem laws_FnOpened.calls (k : Nat) (A0 : Option Addr) (c0 : Nat) (l0 : List Int) (r : Bool) (w : World) (hr0 : Kd.C (Kd.int .u8) w A0 l0.length l0) (hc0 : l0.length ≤ c0) (h : laws_FnOpened.f k l0 = some r) :
 Calls Try.prog 8 #[.slice A0 l0.length c0] w fun e w' => e = .returned (.bool r) ∧ Below w.heap.size w w' := by
 have hu37 := Try.underlying37
 have HR0 := Aside0.mk hr0
 have HC0 := Aside0.mk hc0
 clear hr0 hc0
 have HB := Aside0.mk (Below.refl w.heap.size w)
 have H : ((laws_big.f l0).bind fun t541 => (if t541 = true then (some true) else ((spec_DrawLotOpen.f k l0).bind fun bt542 => ((impl_LotOpen.f k bt542.1 bt542.2.1 bt542.2.2.1 bt542.2.2.2.1 bt542.2.2.2.2.1 bt542.2.2.2.2.2).bind fun bt551 => ((spec_LotOpen.f k bt542.1 bt542.2.1 bt542.2.2.1 bt542.2.2.2.1 bt542.2.2.2.2.1 bt542.2.2.2.2.2).bind fun bt555 => (if bt551.2 = bt555.2 then (if bt551.2 = 1 then (some ((bt551.1.length : Int) == 0)) else (if bt551.2 = 0 then ((impl_LotsQty.f k bt551.1 bt542.2.1 bt542.2.2.1).bind fun t560 => ((spec_LotsQty.f k bt542.1 bt542.2.1 bt542.2.2.1).bind fun t561 => (if t560 = (wrap64 (t561 + bt542.2.2.2.2.1)) then ((impl_LotsCost.f k bt551.1 bt542.2.1 bt542.2.2.1).bind fun t562 => ((spec_LotsCost.f k bt542.1 bt542.2.1 bt542.2.2.1).bind fun t563 => (if t562 = (wrap64 (t563 + bt542.2.2.2.2.2)) then (laws_FnOpened.j0 k bt551.1 ((bt551.1.length : Int) != (wrap64 ((bt542.1.length : Int) + 1))) bt542.2.1 bt542.2.2.1 bt542.2.2.2.1 bt542.2.2.2.2.1 bt542.2.2.2.2.2) else (none)))) else (none)))) else ((laws_sameLots.f k bt551.1 bt542.1).bind fun t559 => (some t559)))) else (none))))))) = some r := h
 clear h
 replace H := Option.bind_eq_some_iff.mp H
 obtain ⟨t541, A20, H⟩ := H
 replace H : (if t541 = true then (some true) else ((spec_DrawLotOpen.f k l0).bind fun bt542 => ((impl_LotOpen.f k bt542.1 bt542.2.1 bt542.2.2.1 bt542.2.2.2.1 bt542.2.2.2.2.1 bt542.2.2.2.2.2).bind fun bt551 => ((spec_LotOpen.f k bt542.1 bt542.2.1 bt542.2.2.1 bt542.2.2.2.1 bt542.2.2.2.2.1 bt542.2.2.2.2.2).bind fun bt555 => (if bt551.2 = bt555.2 then (if bt551.2 = 1 then (some ((bt551.1.length : Int) == 0)) else (if bt551.2 = 0 then ((impl_LotsQty.f k bt551.1 bt542.2.1 bt542.2.2.1).bind fun t560 => ((spec_LotsQty.f k bt542.1 bt542.2.1 bt542.2.2.1).bind fun t561 => (if t560 = (wrap64 (t561 + bt542.2.2.2.2.1)) then ((impl_LotsCost.f k bt551.1 bt542.2.1 bt542.2.2.1).bind fun t562 => ((spec_LotsCost.f k bt542.1 bt542.2.1 bt542.2.2.1).bind fun t563 => (if t562 = (wrap64 (t563 + bt542.2.2.2.2.2)) then (laws_FnOpened.j0 k bt551.1 ((bt551.1.length : Int) != (wrap64 ((bt542.1.length : Int) + 1))) bt542.2.1 bt542.2.2.1 bt542.2.2.2.1 bt542.2.2.2.2.1 bt542.2.2.2.2.2) else (none)))) else (none)))) else ((laws_sameLots.f k bt551.1 bt542.1).bind fun t559 => (some t559)))) else (none)))))) = some r := H
 have A2 := Aside0.mk A20
 clear A20
 by_cases c3 : t541 = true
 ·
  subst c3
  have H1 : (some true) = some r := by rw [if_pos rfl] at H; exact H
  clear H
  have H := H1
  clear H1
  obtain rfl := Option.some.inj H
  go_enter Try.func8, Try.ntmps8
  go_wp2_with (first | ((with_reducible refine gate_callee (f := 30) rfl ?_); refine goesL_ (some 14) rfl rfl Try.func30 (by kernel_rfl) rfl #[.slice A0 l0.length c0] rfl (bc_) ?_; (with_reducible refine (laws_big.calls _ _ l0 true _ ?side1 ?side2 A2.out).mono ?_); (case side1 => repeat (first | exact HR0.out | (with_reducible refine Kd.C_alloc ?_ _) | (with_reducible refine Kd.C_drewN ?_ _) | (with_reducible refine Kd.C_drew ?_))); (case side2 => exact HC0.out); rintro e w' ⟨rfl, ⟨nd, rfl⟩⟩; refine ⟨_, rfl, ?_⟩))
  go_ret
  exact ⟨by first | rfl | (simp [errW_none, errW_some] <;> rfl) | (simp [*, errW_none, errW_some] <;> rfl), bb_⟩
 ·
  replace c3 := Bool.eq_false_iff.mpr c3
  subst c3
  have H1 : ((spec_DrawLotOpen.f k l0).bind fun bt542 => ((impl_LotOpen.f k bt542.1 bt542.2.1 bt542.2.2.1 bt542.2.2.2.1 bt542.2.2.2.2.1 bt542.2.2.2.2.2).bind fun bt551 => ((spec_LotOpen.f k bt542.1 bt542.2.1 bt542.2.2.1 bt542.2.2.2.1 bt542.2.2.2.2.1 bt542.2.2.2.2.2).bind fun bt555 => (if bt551.2 = bt555.2 then (if bt551.2 = 1 then (some ((bt551.1.length : Int) == 0)) else (if bt551.2 = 0 then ((impl_LotsQty.f k bt551.1 bt542.2.1 bt542.2.2.1).bind fun t560 => ((spec_LotsQty.f k bt542.1 bt542.2.1 bt542.2.2.1).bind fun t561 => (if t560 = (wrap64 (t561 + bt542.2.2.2.2.1)) then ((impl_LotsCost.f k bt551.1 bt542.2.1 bt542.2.2.1).bind fun t562 => ((spec_LotsCost.f k bt542.1 bt542.2.1 bt542.2.2.1).bind fun t563 => (if t562 = (wrap64 (t563 + bt542.2.2.2.2.2)) then (laws_FnOpened.j0 k bt551.1 ((bt551.1.length : Int) != (wrap64 ((bt542.1.length : Int) + 1))) bt542.2.1 bt542.2.2.1 bt542.2.2.2.1 bt542.2.2.2.2.1 bt542.2.2.2.2.2) else (none)))) else (none)))) else ((laws_sameLots.f k bt551.1 bt542.1).bind fun t559 => (some t559)))) else (none))))) = some r := by rw [if_neg (show ¬ (false = true) by decide)] at H; exact H
  clear H
  have H := H1
  clear H1
  replace H := Option.bind_eq_some_iff.mp H
  obtain ⟨⟨t542, t545, t546, t547, t548, t549⟩, A40, H⟩ := H
  replace H : ((impl_LotOpen.f k t542 t545 t546 t547 t548 t549).bind fun bt551 => ((spec_LotOpen.f k t542 t545 t546 t547 t548 t549).bind fun bt555 => (if bt551.2 = bt555.2 then (if bt551.2 = 1 then (some ((bt551.1.length : Int) == 0)) else (if bt551.2 = 0 then ((impl_LotsQty.f k bt551.1 t545 t546).bind fun t560 => ((spec_LotsQty.f k t542 t545 t546).bind fun t561 => (if t560 = (wrap64 (t561 + t548)) then ((impl_LotsCost.f k bt551.1 t545 t546).bind fun t562 => ((spec_LotsCost.f k t542 t545 t546).bind fun t563 => (if t562 = (wrap64 (t563 + t549)) then (laws_FnOpened.j0 k bt551.1 ((bt551.1.length : Int) != (wrap64 ((t542.length : Int) + 1))) t545 t546 t547 t548 t549) else (none)))) else (none)))) else ((laws_sameLots.f k bt551.1 t542).bind fun t559 => (some t559)))) else (none)))) = some r := H
  have A4 := Aside0.mk A40
  clear A40
  replace H := Option.bind_eq_some_iff.mp H
  obtain ⟨⟨t551, t554⟩, A50, H⟩ := H
  replace H : ((spec_LotOpen.f k t542 t545 t546 t547 t548 t549).bind fun bt555 => (if t554 = bt555.2 then (if t554 = 1 then (some ((t551.length : Int) == 0)) else (if t554 = 0 then ((impl_LotsQty.f k t551 t545 t546).bind fun t560 => ((spec_LotsQty.f k t542 t545 t546).bind fun t561 => (if t560 = (wrap64 (t561 + t548)) then ((impl_LotsCost.f k t551 t545 t546).bind fun t562 => ((spec_LotsCost.f k t542 t545 t546).bind fun t563 => (if t562 = (wrap64 (t563 + t549)) then (laws_FnOpened.j0 k t551 ((t551.length : Int) != (wrap64 ((t542.length : Int) + 1))) t545 t546 t547 t548 t549) else (none)))) else (none)))) else ((laws_sameLots.f k t551 t542).bind fun t559 => (some t559)))) else (none))) = some r := H
  have A5 := Aside0.mk A50
  clear A50
  replace H := Option.bind_eq_some_iff.mp H
  obtain ⟨⟨t555, t558⟩, A60, H⟩ := H
  replace H : (if t554 = t558 then (if t554 = 1 then (some ((t551.length : Int) == 0)) else (if t554 = 0 then ((impl_LotsQty.f k t551 t545 t546).bind fun t560 => ((spec_LotsQty.f k t542 t545 t546).bind fun t561 => (if t560 = (wrap64 (t561 + t548)) then ((impl_LotsCost.f k t551 t545 t546).bind fun t562 => ((spec_LotsCost.f k t542 t545 t546).bind fun t563 => (if t562 = (wrap64 (t563 + t549)) then (laws_FnOpened.j0 k t551 ((t551.length : Int) != (wrap64 ((t542.length : Int) + 1))) t545 t546 t547 t548 t549) else (none)))) else (none)))) else ((laws_sameLots.f k t551 t542).bind fun t559 => (some t559)))) else (none)) = some r := H
  have A6 := Aside0.mk A60
  clear A60
  by_cases c7 : t554 = t558
  ·
   rw [if_pos c7] at H
   have c7b0 : (t554 == t558) = true := beq_iff_eq.mpr c7
   have c7b1 : (t554 != t558) = false := bne_eq_false_iff_eq.mpr c7
   clear c7
   by_cases c8 : t554 = 1
   ·
    rw [if_pos c8] at H
    have c8b0 : (t554 == 1) = true := beq_iff_eq.mpr c8
    have c8b1 : (t554 != 1) = false := bne_eq_false_iff_eq.mpr c8
    clear c8
    obtain rfl := Option.some.inj H
    go_enter Try.func8, Try.ntmps8
    go_wp2_with (first | ((with_reducible refine gate_callee (f := 30) rfl ?_); refine goesL_ (some 14) rfl rfl Try.func30 (by kernel_rfl) rfl #[.slice A0 l0.length c0] rfl (bc_) ?_; (with_reducible refine (laws_big.calls _ _ l0 false _ ?side1 ?side2 A2.out).mono ?_); (case side1 => repeat (first | exact HR0.out | (with_reducible refine Kd.C_alloc ?_ _) | (with_reducible refine Kd.C_drewN ?_ _) | (with_reducible refine Kd.C_drew ?_))); (case side2 => exact HC0.out); rintro e w' ⟨rfl, ⟨nd, rfl⟩⟩; refine ⟨_, rfl, ?_⟩) | ((with_reducible refine gate_callee (f := 31) rfl ?_); refine goesL_ (some 17) rfl rfl Try.func31 (by kernel_rfl) rfl #[.slice A0 l0.length c0] rfl (bc_) ?_; (with_reducible refine (spec_DrawLotOpen.calls k _ _ l0 t542 t545 t546 t547 t548 t549 _ ?side1 ?side2 A4.out).mono ?_); (case side1 => repeat (first | exact HR0.out | (with_reducible refine Kd.C_alloc ?_ _) | (with_reducible refine Kd.C_drewN ?_ _) | (with_reducible refine Kd.C_drew ?_))); (case side2 => exact HC0.out); rintro e w9 ⟨v543, rfl, ho0, hb⟩; refine ⟨_, rfl, ?_⟩; have n0_ := Aside0.mk (Kd.R_lower ho0 (below_size (bb_))); have n1_ := Aside0.mk (below_step (bb_) hb); clear HB; have HO544 := n0_; have HB := n1_; clear n0_ n1_; (try clear hb); (try clear hb2); (try clear hk); (try clear hi); (try clear ho0)) | ((with_reducible refine gate_dst (N := 4) rfl ?_); (try (refine gate_guard (by rfl) ?_; dsimp only)); refine box_event ?hg (N := 4) ?hd (cs := #[.int .i64 0, .int .i64 0, .int .i64 0, .int .i64 0, .int .i64 0]) (t := 37) ?hr ?_; (case hd => rfl); (case hg => rfl); (case hr => first | (go_simp; done) | (go_simp; rfl)); intro gb550 hg w10 hbox hb; have n0_ := Aside0.mk (Kd.R_below (Kd.R_elderB (pe_ HO544.out) gb550 (Nat.le_of_eq hg.symm)) hb); have n1_ := Aside0.mk (below_step (bb_) hb); have n2_ := Aside0.mk (hbox); have n3_ := Aside0.mk ((by rw [hg]; exact (below_size (bb_)) : w.heap.size ≤ gb550)); have n4_ := Aside0.mk ((by rw [hg]; exact (below_size (bb_)) : w.heap.size ≤ gb550)); clear HO544; clear HB; have HO544 := n0_; have HB := n1_; have BK550 := n2_; have GW550 := n3_; have GE550 := n4_; clear n0_ n1_ n2_ n3_ n4_; clear hb hbox hg; have hcz11_0 : w10.cell? ⟨gb550, 0, none⟩ = some (.int .i64 0) := (blk_cell BK550.out 0).trans rfl; have hcz11_1 : w10.cell? ⟨gb550, 1, none⟩ = some (.int .i64 0) := (blk_cell BK550.out 1).trans rfl; have hcz11_2 : w10.cell? ⟨gb550, 2, none⟩ = some (.int .i64 0) := (blk_cell BK550.out 2).trans rfl; have hcz11_3 : w10.cell? ⟨gb550, 3, none⟩ = some (.int .i64 0) := (blk_cell BK550.out 3).trans rfl; have hcz11_4 : w10.cell? ⟨gb550, 4, none⟩ = some (.int .i64 0) := (blk_cell BK550.out 4).trans rfl; have hfz11_0 := blk_frozen BK550.out 0; have hfz11_1 := blk_frozen BK550.out 1; have hfz11_2 := blk_frozen BK550.out 2; have hfz11_3 := blk_frozen BK550.out 3; have hfz11_4 := blk_frozen BK550.out 4; obtain ⟨Ao12, co12, eo12⟩ := Kd.R_slice HO544.out; subst eo12) | ((with_reducible refine gate_callee (f := 29) rfl ?_); refine goesL_ (some 23) rfl rfl Try.func29 (by kernel_rfl) rfl #[.slice Ao12 t542.length co12, .agg #[.int .i64 t545, .int .i64 t546, .int .i64 t547, .int .i64 t548, .int .i64 t549]] rfl (bc_) ?_; (with_reducible refine (impl_LotOpen.calls k _ _ t542 t545 t546 t547 t548 t549 t551 t554 _ ?side1 ?side2 A5.out).mono ?_); (case side1 => refine (Kd.R_reads' (e := 37) (base := w.heap.size) (ok := fun k_ => (True ∧ k_ ≠ gb550)) (n := t542.length) (c := co12) ?_).2.2; exact (by (with_reducible repeat (first | apply Kd.R_alloc | apply Kd.R_drewN | apply Kd.R_drew)); exact (Kd.R_mono (Kd.R_far (p := ⟨gb550, 4, none⟩) (Kd.R_far (p := ⟨gb550, 3, none⟩) (Kd.R_far (p := ⟨gb550, 2, none⟩) (Kd.R_far (p := ⟨gb550, 1, none⟩) (Kd.R_far (p := ⟨gb550, 0, none⟩) (Kd.R_mono HO544.out (fun k_ hk => (⟨hk, hk.2⟩ : _ ∧ k_ ≠ gb550))) (fun _ hk => hk.2) (.int .i64 t545)) (fun _ hk => hk.2) (.int .i64 t546)) (fun _ hk => hk.2) (.int .i64 t547)) (fun _ hk => hk.2) (.int .i64 t548)) (fun _ hk => hk.2) (.int .i64 t549)) (fun _ h_ => h_.1)))); (case side2 => exact (Kd.R_reads' HO544.out).2.1); rintro e w13 ⟨v552, rfl, ho0, hb⟩; refine ⟨_, rfl, ?_⟩; have n0_ := Aside0.mk (Kd.R_elder' (by (with_reducible repeat (first | apply Kd.R_alloc | apply Kd.R_drewN | apply Kd.R_drew)); exact (Kd.R_mono (Kd.R_far (p := ⟨gb550, 4, none⟩) (Kd.R_far (p := ⟨gb550, 3, none⟩) (Kd.R_far (p := ⟨gb550, 2, none⟩) (Kd.R_far (p := ⟨gb550, 1, none⟩) (Kd.R_far (p := ⟨gb550, 0, none⟩) (Kd.R_mono HO544.out (fun k_ hk => (⟨hk, hk.2⟩ : _ ∧ k_ ≠ gb550))) (fun _ hk => hk.2) (.int .i64 t545)) (fun _ hk => hk.2) (.int .i64 t546)) (fun _ hk => hk.2) (.int .i64 t547)) (fun _ hk => hk.2) (.int .i64 t548)) (fun _ hk => hk.2) (.int .i64 t549)) (fun _ h_ => h_.1))) (Kd.R_base ho0) hb); have n1_ := Aside0.mk (Kd.R_lower (Kd.R_newB (Kd.R_new' ho0 (Kd.R_lt (by (with_reducible repeat (first | apply Kd.R_alloc | apply Kd.R_drewN | apply Kd.R_drew)); exact (Kd.R_mono (Kd.R_far (p := ⟨gb550, 4, none⟩) (Kd.R_far (p := ⟨gb550, 3, none⟩) (Kd.R_far (p := ⟨gb550, 2, none⟩) (Kd.R_far (p := ⟨gb550, 1, none⟩) (Kd.R_far (p := ⟨gb550, 0, none⟩) (Kd.R_mono HO544.out (fun k_ hk => (⟨hk, hk.2⟩ : _ ∧ k_ ≠ gb550))) (fun _ hk => hk.2) (.int .i64 t545)) (fun _ hk => hk.2) (.int .i64 t546)) (fun _ hk => hk.2) (.int .i64 t547)) (fun _ hk => hk.2) (.int .i64 t548)) (fun _ hk => hk.2) (.int .i64 t549)) (fun _ h_ => h_.1))))) (g := gb550) (o := .cells #[.int .i64 t545, .int .i64 t546, .int .i64 t547, .int .i64 t548, .int .i64 t549] 37 (0, 0)) (by (with_reducible repeat (first | refine blk_drewN ?_ _ | refine blk_drew ?_ | refine blk_alloc ?_ _)); refine blk_put (cs := #[.int .i64 t545, .int .i64 t546, .int .i64 t547, .int .i64 t548, .int .i64 0]) ?_ 4 _ rfl; (with_reducible repeat (first | refine blk_drewN ?_ _ | refine blk_drew ?_ | refine blk_alloc ?_ _)); refine blk_put (cs := #[.int .i64 t545, .int .i64 t546, .int .i64 t547, .int .i64 0, .int .i64 0]) ?_ 3 _ rfl; (with_reducible repeat (first | refine blk_drewN ?_ _ | refine blk_drew ?_ | refine blk_alloc ?_ _)); refine blk_put (cs := #[.int .i64 t545, .int .i64 t546, .int .i64 0, .int .i64 0, .int .i64 0]) ?_ 2 _ rfl; (with_reducible repeat (first | refine blk_drewN ?_ _ | refine blk_drew ?_ | refine blk_alloc ?_ _)); refine blk_put (cs := #[.int .i64 t545, .int .i64 0, .int .i64 0, .int .i64 0, .int .i64 0]) ?_ 1 _ rfl; (with_reducible repeat (first | refine blk_drewN ?_ _ | refine blk_drew ?_ | refine blk_alloc ?_ _)); refine blk_put (cs := #[.int .i64 0, .int .i64 0, .int .i64 0, .int .i64 0, .int .i64 0]) ?_ 0 _ rfl; (with_reducible repeat (first | refine blk_drewN ?_ _ | refine blk_drew ?_ | refine blk_alloc ?_ _)); exact BK550.out)) (below_size (bg_ GE550.out))); have n2_ := Aside0.mk (blk_below (g := gb550) (o := .cells #[.int .i64 t545, .int .i64 t546, .int .i64 t547, .int .i64 t548, .int .i64 t549] 37 (0, 0)) (by (with_reducible repeat (first | refine blk_drewN ?_ _ | refine blk_drew ?_ | refine blk_alloc ?_ _)); refine blk_put (cs := #[.int .i64 t545, .int .i64 t546, .int .i64 t547, .int .i64 t548, .int .i64 0]) ?_ 4 _ rfl; (with_reducible repeat (first | refine blk_drewN ?_ _ | refine blk_drew ?_ | refine blk_alloc ?_ _)); refine blk_put (cs := #[.int .i64 t545, .int .i64 t546, .int .i64 t547, .int .i64 0, .int .i64 0]) ?_ 3 _ rfl; (with_reducible repeat (first | refine blk_drewN ?_ _ | refine blk_drew ?_ | refine blk_alloc ?_ _)); refine blk_put (cs := #[.int .i64 t545, .int .i64 t546, .int .i64 0, .int .i64 0, .int .i64 0]) ?_ 2 _ rfl; (with_reducible repeat (first | refine blk_drewN ?_ _ | refine blk_drew ?_ | refine blk_alloc ?_ _)); refine blk_put (cs := #[.int .i64 t545, .int .i64 0, .int .i64 0, .int .i64 0, .int .i64 0]) ?_ 1 _ rfl; (with_reducible repeat (first | refine blk_drewN ?_ _ | refine blk_drew ?_ | refine blk_alloc ?_ _)); refine blk_put (cs := #[.int .i64 0, .int .i64 0, .int .i64 0, .int .i64 0, .int .i64 0]) ?_ 0 _ rfl; (with_reducible repeat (first | refine blk_drewN ?_ _ | refine blk_drew ?_ | refine blk_alloc ?_ _)); exact BK550.out) hb); have n3_ := Aside0.mk (below_step (bg_ GE550.out) hb); clear HO544; clear BK550; clear HB; have HO544 := n0_; have HO553 := n1_; have BK550 := n2_; have HB := n3_; clear n0_ n1_ n2_ n3_; (try clear hb); (try clear hb2); (try clear hk); (try clear hi); (try clear ho0); have hcz14_0 : w13.cell? ⟨gb550, 0, none⟩ = some (.int .i64 t545) := (blk_cell BK550.out 0).trans rfl; have hcz14_1 : w13.cell? ⟨gb550, 1, none⟩ = some (.int .i64 t546) := (blk_cell BK550.out 1).trans rfl; have hcz14_2 : w13.cell? ⟨gb550, 2, none⟩ = some (.int .i64 t547) := (blk_cell BK550.out 2).trans rfl; have hcz14_3 : w13.cell? ⟨gb550, 3, none⟩ = some (.int .i64 t548) := (blk_cell BK550.out 3).trans rfl; have hcz14_4 : w13.cell? ⟨gb550, 4, none⟩ = some (.int .i64 t549) := (blk_cell BK550.out 4).trans rfl; have hfz14_0 := blk_frozen BK550.out 0; have hfz14_1 := blk_frozen BK550.out 1; have hfz14_2 := blk_frozen BK550.out 2; have hfz14_3 := blk_frozen BK550.out 3; have hfz14_4 := blk_frozen BK550.out 4) | ((with_reducible refine gate_callee (f := 27) rfl ?_); refine goesL_ (some 29) rfl rfl Try.func27 (by kernel_rfl) rfl #[.slice Ao12 t542.length co12, .agg #[.int .i64 t545, .int .i64 t546, .int .i64 t547, .int .i64 t548, .int .i64 t549]] rfl (bc_) ?_; (with_reducible refine (spec_LotOpen.calls k _ _ t542 t545 t546 t547 t548 t549 t555 t558 _ ?side1 ?side2 A6.out).mono ?_); (case side1 => repeat (first | exact (Kd.R_reads' HO544.out).2.2 | (with_reducible refine Kd.C_alloc ?_ _) | (with_reducible refine Kd.C_drewN ?_ _) | (with_reducible refine Kd.C_drew ?_))); (case side2 => exact (Kd.R_reads' HO544.out).2.1); rintro e w15 ⟨v556, rfl, ho0, hb⟩; refine ⟨_, rfl, ?_⟩; have n0_ := Aside0.mk (Kd.R_elder' (pe_ HO544.out) (Kd.R_base ho0) hb); have n1_ := Aside0.mk (Kd.R_elder' (pe_ HO553.out) (Kd.R_base ho0) hb); have n2_ := Aside0.mk (Kd.R_lower (Kd.R_newB (Kd.R_new' (Kd.R_new' ho0 (Kd.R_lt (pe_ HO544.out))) (Kd.R_lt (pe_ HO553.out))) (g := gb550) (o := .cells #[.int .i64 t545, .int .i64 t546, .int .i64 t547, .int .i64 t548, .int .i64 t549] 37 (0, 0)) (pb_ BK550.out)) (below_size (bg_ GE550.out))); have n3_ := Aside0.mk (blk_below (g := gb550) (o := .cells #[.int .i64 t545, .int .i64 t546, .int .i64 t547, .int .i64 t548, .int .i64 t549] 37 (0, 0)) (pb_ BK550.out) hb); have n4_ := Aside0.mk (below_step (bg_ GE550.out) hb); clear HO544; clear HO553; clear BK550; clear HB; have HO544 := n0_; have HO553 := n1_; have HO557 := n2_; have BK550 := n3_; have HB := n4_; clear n0_ n1_ n2_ n3_ n4_; (try clear hb); (try clear hb2); (try clear hk); (try clear hi); (try clear ho0); obtain ⟨Ao16, co16, eo16⟩ := Kd.R_slice HO553.out; subst eo16))
    go_ret
    exact ⟨by first | rfl | (simp [errW_none, errW_some] <;> rfl) | (simp [*, errW_none, errW_some] <;> rfl), bg_ GE550.out⟩
   ·
    rw [if_neg c8] at H
    have c8b0 : (t554 == 1) = false := beq_eq_false_iff_ne.mpr c8
    have c8b1 : (t554 != 1) = true := bne_iff_ne.mpr c8
    by_cases c17 : t554 = 0
    ·
     rw [if_pos c17] at H
     have c17b0 : (t554 == 0) = true := beq_iff_eq.mpr c17
     have c17b1 : (t554 != 0) = false := bne_eq_false_iff_eq.mpr c17
     clear c17
     have HC18 := Aside0.mk H
     clear H
     go_enter Try.func8, Try.ntmps8
     go_upto_region 12 with (first | ((with_reducible refine gate_callee (f := 30) rfl ?_); refine goesL_ (some 14) rfl rfl Try.func30 (by kernel_rfl) rfl #[.slice A0 l0.length c0] rfl (bc_) ?_; (with_reducible refine (laws_big.calls _ _ l0 false _ ?side1 ?side2 A2.out).mono ?_); (case side1 => repeat (first | exact HR0.out | (with_reducible refine Kd.C_alloc ?_ _) | (with_reducible refine Kd.C_drewN ?_ _) | (with_reducible refine Kd.C_drew ?_))); (case side2 => exact HC0.out); rintro e w' ⟨rfl, ⟨nd, rfl⟩⟩; refine ⟨_, rfl, ?_⟩) | ((with_reducible refine gate_callee (f := 31) rfl ?_); refine goesL_ (some 17) rfl rfl Try.func31 (by kernel_rfl) rfl #[.slice A0 l0.length c0] rfl (bc_) ?_; (with_reducible refine (spec_DrawLotOpen.calls k _ _ l0 t542 t545 t546 t547 t548 t549 _ ?side1 ?side2 A4.out).mono ?_); (case side1 => repeat (first | exact HR0.out | (with_reducible refine Kd.C_alloc ?_ _) | (with_reducible refine Kd.C_drewN ?_ _) | (with_reducible refine Kd.C_drew ?_))); (case side2 => exact HC0.out); rintro e w19 ⟨v543, rfl, ho0, hb⟩; refine ⟨_, rfl, ?_⟩; have n0_ := Aside0.mk (Kd.R_lower ho0 (below_size (bb_))); have n1_ := Aside0.mk (below_step (bb_) hb); clear HB; have HO544 := n0_; have HB := n1_; clear n0_ n1_; (try clear hb); (try clear hb2); (try clear hk); (try clear hi); (try clear ho0)) | ((with_reducible refine gate_dst (N := 4) rfl ?_); (try (refine gate_guard (by rfl) ?_; dsimp only)); refine box_event ?hg (N := 4) ?hd (cs := #[.int .i64 0, .int .i64 0, .int .i64 0, .int .i64 0, .int .i64 0]) (t := 37) ?hr ?_; (case hd => rfl); (case hg => rfl); (case hr => first | (go_simp; done) | (go_simp; rfl)); intro gb550 hg w20 hbox hb; have n0_ := Aside0.mk (Kd.R_below (Kd.R_elderB (pe_ HO544.out) gb550 (Nat.le_of_eq hg.symm)) hb); have n1_ := Aside0.mk (below_step (bb_) hb); have n2_ := Aside0.mk (hbox); have n3_ := Aside0.mk ((by rw [hg]; exact (below_size (bb_)) : w.heap.size ≤ gb550)); have n4_ := Aside0.mk ((by rw [hg]; exact (below_size (bb_)) : w.heap.size ≤ gb550)); clear HO544; clear HB; have HO544 := n0_; have HB := n1_; have BK550 := n2_; have GW550 := n3_; have GE550 := n4_; clear n0_ n1_ n2_ n3_ n4_; clear hb hbox hg; have hcz21_0 : w20.cell? ⟨gb550, 0, none⟩ = some (.int .i64 0) := (blk_cell BK550.out 0).trans rfl; have hcz21_1 : w20.cell? ⟨gb550, 1, none⟩ = some (.int .i64 0) := (blk_cell BK550.out 1).trans rfl; have hcz21_2 : w20.cell? ⟨gb550, 2, none⟩ = some (.int .i64 0) := (blk_cell BK550.out 2).trans rfl; have hcz21_3 : w20.cell? ⟨gb550, 3, none⟩ = some (.int .i64 0) := (blk_cell BK550.out 3).trans rfl; have hcz21_4 : w20.cell? ⟨gb550, 4, none⟩ = some (.int .i64 0) := (blk_cell BK550.out 4).trans rfl; have hfz21_0 := blk_frozen BK550.out 0; have hfz21_1 := blk_frozen BK550.out 1; have hfz21_2 := blk_frozen BK550.out 2; have hfz21_3 := blk_frozen BK550.out 3; have hfz21_4 := blk_frozen BK550.out 4; obtain ⟨Ao22, co22, eo22⟩ := Kd.R_slice HO544.out; subst eo22) | ((with_reducible refine gate_callee (f := 29) rfl ?_); refine goesL_ (some 23) rfl rfl Try.func29 (by kernel_rfl) rfl #[.slice Ao22 t542.length co22, .agg #[.int .i64 t545, .int .i64 t546, .int .i64 t547, .int .i64 t548, .int .i64 t549]] rfl (bc_) ?_; (with_reducible refine (impl_LotOpen.calls k _ _ t542 t545 t546 t547 t548 t549 t551 t554 _ ?side1 ?side2 A5.out).mono ?_); (case side1 => refine (Kd.R_reads' (e := 37) (base := w.heap.size) (ok := fun k_ => (True ∧ k_ ≠ gb550)) (n := t542.length) (c := co22) ?_).2.2; exact (by (with_reducible repeat (first | apply Kd.R_alloc | apply Kd.R_drewN | apply Kd.R_drew)); exact (Kd.R_mono (Kd.R_far (p := ⟨gb550, 4, none⟩) (Kd.R_far (p := ⟨gb550, 3, none⟩) (Kd.R_far (p := ⟨gb550, 2, none⟩) (Kd.R_far (p := ⟨gb550, 1, none⟩) (Kd.R_far (p := ⟨gb550, 0, none⟩) (Kd.R_mono HO544.out (fun k_ hk => (⟨hk, hk.2⟩ : _ ∧ k_ ≠ gb550))) (fun _ hk => hk.2) (.int .i64 t545)) (fun _ hk => hk.2) (.int .i64 t546)) (fun _ hk => hk.2) (.int .i64 t547)) (fun _ hk => hk.2) (.int .i64 t548)) (fun _ hk => hk.2) (.int .i64 t549)) (fun _ h_ => h_.1)))); (case side2 => exact (Kd.R_reads' HO544.out).2.1); rintro e w23 ⟨v552, rfl, ho0, hb⟩; refine ⟨_, rfl, ?_⟩; have n0_ := Aside0.mk (Kd.R_elder' (by (with_reducible repeat (first | apply Kd.R_alloc | apply Kd.R_drewN | apply Kd.R_drew)); exact (Kd.R_mono (Kd.R_far (p := ⟨gb550, 4, none⟩) (Kd.R_far (p := ⟨gb550, 3, none⟩) (Kd.R_far (p := ⟨gb550, 2, none⟩) (Kd.R_far (p := ⟨gb550, 1, none⟩) (Kd.R_far (p := ⟨gb550, 0, none⟩) (Kd.R_mono HO544.out (fun k_ hk => (⟨hk, hk.2⟩ : _ ∧ k_ ≠ gb550))) (fun _ hk => hk.2) (.int .i64 t545)) (fun _ hk => hk.2) (.int .i64 t546)) (fun _ hk => hk.2) (.int .i64 t547)) (fun _ hk => hk.2) (.int .i64 t548)) (fun _ hk => hk.2) (.int .i64 t549)) (fun _ h_ => h_.1))) (Kd.R_base ho0) hb); have n1_ := Aside0.mk (Kd.R_lower (Kd.R_newB (Kd.R_new' ho0 (Kd.R_lt (by (with_reducible repeat (first | apply Kd.R_alloc | apply Kd.R_drewN | apply Kd.R_drew)); exact (Kd.R_mono (Kd.R_far (p := ⟨gb550, 4, none⟩) (Kd.R_far (p := ⟨gb550, 3, none⟩) (Kd.R_far (p := ⟨gb550, 2, none⟩) (Kd.R_far (p := ⟨gb550, 1, none⟩) (Kd.R_far (p := ⟨gb550, 0, none⟩) (Kd.R_mono HO544.out (fun k_ hk => (⟨hk, hk.2⟩ : _ ∧ k_ ≠ gb550))) (fun _ hk => hk.2) (.int .i64 t545)) (fun _ hk => hk.2) (.int .i64 t546)) (fun _ hk => hk.2) (.int .i64 t547)) (fun _ hk => hk.2) (.int .i64 t548)) (fun _ hk => hk.2) (.int .i64 t549)) (fun _ h_ => h_.1))))) (g := gb550) (o := .cells #[.int .i64 t545, .int .i64 t546, .int .i64 t547, .int .i64 t548, .int .i64 t549] 37 (0, 0)) (by (with_reducible repeat (first | refine blk_drewN ?_ _ | refine blk_drew ?_ | refine blk_alloc ?_ _)); refine blk_put (cs := #[.int .i64 t545, .int .i64 t546, .int .i64 t547, .int .i64 t548, .int .i64 0]) ?_ 4 _ rfl; (with_reducible repeat (first | refine blk_drewN ?_ _ | refine blk_drew ?_ | refine blk_alloc ?_ _)); refine blk_put (cs := #[.int .i64 t545, .int .i64 t546, .int .i64 t547, .int .i64 0, .int .i64 0]) ?_ 3 _ rfl; (with_reducible repeat (first | refine blk_drewN ?_ _ | refine blk_drew ?_ | refine blk_alloc ?_ _)); refine blk_put (cs := #[.int .i64 t545, .int .i64 t546, .int .i64 0, .int .i64 0, .int .i64 0]) ?_ 2 _ rfl; (with_reducible repeat (first | refine blk_drewN ?_ _ | refine blk_drew ?_ | refine blk_alloc ?_ _)); refine blk_put (cs := #[.int .i64 t545, .int .i64 0, .int .i64 0, .int .i64 0, .int .i64 0]) ?_ 1 _ rfl; (with_reducible repeat (first | refine blk_drewN ?_ _ | refine blk_drew ?_ | refine blk_alloc ?_ _)); refine blk_put (cs := #[.int .i64 0, .int .i64 0, .int .i64 0, .int .i64 0, .int .i64 0]) ?_ 0 _ rfl; (with_reducible repeat (first | refine blk_drewN ?_ _ | refine blk_drew ?_ | refine blk_alloc ?_ _)); exact BK550.out)) (below_size (bg_ GE550.out))); have n2_ := Aside0.mk (blk_below (g := gb550) (o := .cells #[.int .i64 t545, .int .i64 t546, .int .i64 t547, .int .i64 t548, .int .i64 t549] 37 (0, 0)) (by (with_reducible repeat (first | refine blk_drewN ?_ _ | refine blk_drew ?_ | refine blk_alloc ?_ _)); refine blk_put (cs := #[.int .i64 t545, .int .i64 t546, .int .i64 t547, .int .i64 t548, .int .i64 0]) ?_ 4 _ rfl; (with_reducible repeat (first | refine blk_drewN ?_ _ | refine blk_drew ?_ | refine blk_alloc ?_ _)); refine blk_put (cs := #[.int .i64 t545, .int .i64 t546, .int .i64 t547, .int .i64 0, .int .i64 0]) ?_ 3 _ rfl; (with_reducible repeat (first | refine blk_drewN ?_ _ | refine blk_drew ?_ | refine blk_alloc ?_ _)); refine blk_put (cs := #[.int .i64 t545, .int .i64 t546, .int .i64 0, .int .i64 0, .int .i64 0]) ?_ 2 _ rfl; (with_reducible repeat (first | refine blk_drewN ?_ _ | refine blk_drew ?_ | refine blk_alloc ?_ _)); refine blk_put (cs := #[.int .i64 t545, .int .i64 0, .int .i64 0, .int .i64 0, .int .i64 0]) ?_ 1 _ rfl; (with_reducible repeat (first | refine blk_drewN ?_ _ | refine blk_drew ?_ | refine blk_alloc ?_ _)); refine blk_put (cs := #[.int .i64 0, .int .i64 0, .int .i64 0, .int .i64 0, .int .i64 0]) ?_ 0 _ rfl; (with_reducible repeat (first | refine blk_drewN ?_ _ | refine blk_drew ?_ | refine blk_alloc ?_ _)); exact BK550.out) hb); have n3_ := Aside0.mk (below_step (bg_ GE550.out) hb); clear HO544; clear BK550; clear HB; have HO544 := n0_; have HO553 := n1_; have BK550 := n2_; have HB := n3_; clear n0_ n1_ n2_ n3_; (try clear hb); (try clear hb2); (try clear hk); (try clear hi); (try clear ho0); have hcz24_0 : w23.cell? ⟨gb550, 0, none⟩ = some (.int .i64 t545) := (blk_cell BK550.out 0).trans rfl; have hcz24_1 : w23.cell? ⟨gb550, 1, none⟩ = some (.int .i64 t546) := (blk_cell BK550.out 1).trans rfl; have hcz24_2 : w23.cell? ⟨gb550, 2, none⟩ = some (.int .i64 t547) := (blk_cell BK550.out 2).trans rfl; have hcz24_3 : w23.cell? ⟨gb550, 3, none⟩ = some (.int .i64 t548) := (blk_cell BK550.out 3).trans rfl; have hcz24_4 : w23.cell? ⟨gb550, 4, none⟩ = some (.int .i64 t549) := (blk_cell BK550.out 4).trans rfl; have hfz24_0 := blk_frozen BK550.out 0; have hfz24_1 := blk_frozen BK550.out 1; have hfz24_2 := blk_frozen BK550.out 2; have hfz24_3 := blk_frozen BK550.out 3; have hfz24_4 := blk_frozen BK550.out 4) | ((with_reducible refine gate_callee (f := 27) rfl ?_); refine goesL_ (some 29) rfl rfl Try.func27 (by kernel_rfl) rfl #[.slice Ao22 t542.length co22, .agg #[.int .i64 t545, .int .i64 t546, .int .i64 t547, .int .i64 t548, .int .i64 t549]] rfl (bc_) ?_; (with_reducible refine (spec_LotOpen.calls k _ _ t542 t545 t546 t547 t548 t549 t555 t558 _ ?side1 ?side2 A6.out).mono ?_); (case side1 => repeat (first | exact (Kd.R_reads' HO544.out).2.2 | (with_reducible refine Kd.C_alloc ?_ _) | (with_reducible refine Kd.C_drewN ?_ _) | (with_reducible refine Kd.C_drew ?_))); (case side2 => exact (Kd.R_reads' HO544.out).2.1); rintro e w25 ⟨v556, rfl, ho0, hb⟩; refine ⟨_, rfl, ?_⟩; have n0_ := Aside0.mk (Kd.R_elder' (pe_ HO544.out) (Kd.R_base ho0) hb); have n1_ := Aside0.mk (Kd.R_elder' (pe_ HO553.out) (Kd.R_base ho0) hb); have n2_ := Aside0.mk (Kd.R_lower (Kd.R_newB (Kd.R_new' (Kd.R_new' ho0 (Kd.R_lt (pe_ HO544.out))) (Kd.R_lt (pe_ HO553.out))) (g := gb550) (o := .cells #[.int .i64 t545, .int .i64 t546, .int .i64 t547, .int .i64 t548, .int .i64 t549] 37 (0, 0)) (pb_ BK550.out)) (below_size (bg_ GE550.out))); have n3_ := Aside0.mk (blk_below (g := gb550) (o := .cells #[.int .i64 t545, .int .i64 t546, .int .i64 t547, .int .i64 t548, .int .i64 t549] 37 (0, 0)) (pb_ BK550.out) hb); have n4_ := Aside0.mk (below_step (bg_ GE550.out) hb); clear HO544; clear HO553; clear BK550; clear HB; have HO544 := n0_; have HO553 := n1_; have HO557 := n2_; have BK550 := n3_; have HB := n4_; clear n0_ n1_ n2_ n3_ n4_; (try clear hb); (try clear hb2); (try clear hk); (try clear hi); (try clear ho0)))
     (try simp only [Act.put, List.setIfInBounds_toArray, List.set_cons_zero, List.set_cons_succ])
     go_cut [86] (fun v86 wc => ∃ (kq : Nat) (x86_17 : Bool), v86 = .bool x86_17 ∧ Aside0 (laws_FnOpened.j0 kq t551 x86_17 t545 t546 t547 t548 t549 = some r) ∧ Aside0 (kq ≤ k) ∧ Aside0 (Kd.R k37 37 wc w.heap.size (fun k_ => k_ ≠ gb550) v552 t551) ∧ Aside0 (wc.heap[gb550]? = some (.cells #[.int .i64 t545, .int .i64 t546, .int .i64 t547, .int .i64 t548, .int .i64 t549] 37 (0, 0))) ∧ Aside0 (Below w.heap.size w wc))
     case first =>
      have H := HC18.out
      clear HC18
      replace H := Option.bind_eq_some_iff.mp H
      obtain ⟨t560, A260, H⟩ := H
      replace H : ((spec_LotsQty.f k t542 t545 t546).bind fun t561 => (if t560 = (wrap64 (t561 + t548)) then ((impl_LotsCost.f k t551 t545 t546).bind fun t562 => ((spec_LotsCost.f k t542 t545 t546).bind fun t563 => (if t562 = (wrap64 (t563 + t549)) then (laws_FnOpened.j0 k t551 ((t551.length : Int) != (wrap64 ((t542.length : Int) + 1))) t545 t546 t547 t548 t549) else (none)))) else (none))) = some r := H
      have A26 := Aside0.mk A260
      clear A260
      replace H := Option.bind_eq_some_iff.mp H
      obtain ⟨t561, A270, H⟩ := H
      replace H : (if t560 = (wrap64 (t561 + t548)) then ((impl_LotsCost.f k t551 t545 t546).bind fun t562 => ((spec_LotsCost.f k t542 t545 t546).bind fun t563 => (if t562 = (wrap64 (t563 + t549)) then (laws_FnOpened.j0 k t551 ((t551.length : Int) != (wrap64 ((t542.length : Int) + 1))) t545 t546 t547 t548 t549) else (none)))) else (none)) = some r := H
      have A27 := Aside0.mk A270
      clear A270
      by_cases c28 : t560 = (wrap64 (t561 + t548))
      ·
       rw [if_pos c28] at H
       have c28b0 : (t560 == (wrap64 (t561 + t548))) = true := beq_iff_eq.mpr c28
       have c28b1 : (t560 != (wrap64 (t561 + t548))) = false := bne_eq_false_iff_eq.mpr c28
       clear c28
       (first | rw [c28b0] | (simp only [i64_w, i32_w]; rw [c28b0]) | skip)
       replace H := Option.bind_eq_some_iff.mp H
       obtain ⟨t562, A290, H⟩ := H
       replace H : ((spec_LotsCost.f k t542 t545 t546).bind fun t563 => (if t562 = (wrap64 (t563 + t549)) then (laws_FnOpened.j0 k t551 ((t551.length : Int) != (wrap64 ((t542.length : Int) + 1))) t545 t546 t547 t548 t549) else (none))) = some r := H
       have A29 := Aside0.mk A290
       clear A290
       replace H := Option.bind_eq_some_iff.mp H
       obtain ⟨t563, A300, H⟩ := H
       replace H : (if t562 = (wrap64 (t563 + t549)) then (laws_FnOpened.j0 k t551 ((t551.length : Int) != (wrap64 ((t542.length : Int) + 1))) t545 t546 t547 t548 t549) else (none)) = some r := H
       have A30 := Aside0.mk A300
       clear A300
       by_cases c31 : t562 = (wrap64 (t563 + t549))
       ·
        rw [if_pos c31] at H
        have c31b0 : (t562 == (wrap64 (t563 + t549))) = true := beq_iff_eq.mpr c31
        have c31b1 : (t562 != (wrap64 (t563 + t549))) = false := bne_eq_false_iff_eq.mpr c31
        clear c31
        have H' := Aside0.mk H
        clear H
        try go_wp2
        have n0_ := Aside0.mk (Kd.R_drew HO544.out)
        have n1_ := Aside0.mk (Kd.R_drew HO553.out)
        have n2_ := Aside0.mk (Kd.R_drew HO557.out)
        have n3_ := Aside0.mk (blk_drew BK550.out)
        have n4_ := Aside0.mk (below_drew1 HB.out)
        clear HO544
        clear HO553
        clear HO557
        clear BK550
        clear HB
        have HO544 := n0_
        have HO553 := n1_
        have HO557 := n2_
        have BK550 := n3_
        have HB := n4_
        clear n0_ n1_ n2_ n3_ n4_
        obtain ⟨Ao33, co33, eo33⟩ := Kd.R_slice HO553.out
        (first | subst eo33 | (injection eo33 with f1_ f2_ f3_; have f4_ := f1_.symm; have f5_ := f3_.symm; clear f1_ f2_ f3_; subst f4_; subst f5_))
        refine start_ (n := 42) (S := fun w' => w'.cell? ⟨gb550, 0, none⟩ = some (.int .i64 t545) ∧ w'.cell? ⟨gb550, 1, none⟩ = some (.int .i64 t546) ∧ w'.cell? ⟨gb550, 2, none⟩ = some (.int .i64 t547) ∧ w'.cell? ⟨gb550, 3, none⟩ = some (.int .i64 t548) ∧ w'.cell? ⟨gb550, 4, none⟩ = some (.int .i64 t549)) (ds := []) #[false, false, false, false, false, false, false, false, false, false, false, false, false, false, false, false, false, false, false, false, false, false, false, false, false, false, false, false, false, false, false, false, false, false, false, false, false, false, false, false, false, false] (by kernel_rfl) rfl rfl ⟨(blk_cell BK550.out 0).trans rfl, (blk_cell BK550.out 1).trans rfl, (blk_cell BK550.out 2).trans rfl, (blk_cell BK550.out 3).trans rfl, (blk_cell BK550.out 4).trans rfl⟩ (fun hHeld => ?_); refine with_tabW laws_FnOpened.tab12 laws_FnOpened.bits12 (fun HT_ HW_ => ?_)
        generalize w25.drew = w32 at HO544 HO553 HO557 BK550 HB hHeld ⊢
        refine pure_ (i := 0) (N := some 45) (v := ?_) (a' := ?_) #[true, false, false, false, false, false, false, false, false, false, false, false, false, false, false, false, false, false, false, false, false, false, false, false, false, false, false, false, false, false, false, false, false, false, false, false, false, false, false, false, false, false] rfl rfl (any_of HT_.out (by kernel_rfl)) (fun _ _ _ h => h) (Or.inl ⟨by rfl, ?_⟩) ?_ ?_
        rotate_left
        ·
         intro w'
         go_simp
         with_reducible rfl
        rotate_left
        ·
         simp only [Act.put, List.setIfInBounds_toArray, List.set_cons_zero, List.set_cons_succ, i64_w, i32_w]
         rfl
        refine pure_ (i := 1) (N := some 46) (v := ?_) (a' := ?_) #[true, true, false, false, false, false, false, false, false, false, false, false, false, false, false, false, false, false, false, false, false, false, false, false, false, false, false, false, false, false, false, false, false, false, false, false, false, false, false, false, false, false] rfl rfl (any_of HT_.out (by kernel_rfl)) (fun _ _ _ h => h) (Or.inl ⟨by rfl, ?_⟩) ?_ ?_
        rotate_left
        ·
         intro w'
         go_simp
         with_reducible rfl
        rotate_left
        ·
         simp only [Act.put, List.setIfInBounds_toArray, List.set_cons_zero, List.set_cons_succ, i64_w, i32_w]
         rfl
        refine pure_ (i := 3) (N := some 48) (v := ?_) (a' := ?_) #[true, true, false, true, false, false, false, false, false, false, false, false, false, false, false, false, false, false, false, false, false, false, false, false, false, false, false, false, false, false, false, false, false, false, false, false, false, false, false, false, false, false] rfl rfl (any_of HT_.out (by kernel_rfl)) (fun _ _ _ h => h) (Or.inl ⟨by rfl, ?_⟩) ?_ ?_
        rotate_left
        ·
         intro w'
         go_simp
         with_reducible rfl
        rotate_left
        ·
         simp only [Act.put, List.setIfInBounds_toArray, List.set_cons_zero, List.set_cons_succ, i64_w, i32_w]
         rfl
        refine pure_ (i := 6) (N := some 51) (v := ?_) (a' := ?_) #[true, true, false, true, false, false, true, false, false, false, false, false, false, false, false, false, false, false, false, false, false, false, false, false, false, false, false, false, false, false, false, false, false, false, false, false, false, false, false, false, false, false] rfl rfl (any_of HT_.out (by kernel_rfl)) (fun _ _ _ h => h) (Or.inl ⟨by rfl, ?_⟩) ?_ ?_
        rotate_left
        ·
         intro w'
         go_simp
         with_reducible rfl
        rotate_left
        ·
         simp only [Act.put, List.setIfInBounds_toArray, List.set_cons_zero, List.set_cons_succ, i64_w, i32_w]
         rfl
        refine pure_ (i := 7) (N := some 52) (v := ?_) (a' := ?_) #[true, true, false, true, false, false, true, true, false, false, false, false, false, false, false, false, false, false, false, false, false, false, false, false, false, false, false, false, false, false, false, false, false, false, false, false, false, false, false, false, false, false] rfl rfl (any_of HT_.out (by kernel_rfl)) (fun _ _ _ h => h) (Or.inl ⟨by rfl, ?_⟩) ?_ ?_
        rotate_left
        ·
         intro w'
         go_simp
         with_reducible rfl
        rotate_left
        ·
         simp only [Act.put, List.setIfInBounds_toArray, List.set_cons_zero, List.set_cons_succ, i64_w, i32_w]
         rfl
        refine pure_ (i := 9) (N := some 54) (v := ?_) (a' := ?_) #[true, true, false, true, false, false, true, true, false, true, false, false, false, false, false, false, false, false, false, false, false, false, false, false, false, false, false, false, false, false, false, false, false, false, false, false, false, false, false, false, false, false] rfl rfl (any_of HT_.out (by kernel_rfl)) (fun _ _ _ h => h) (Or.inl ⟨by rfl, ?_⟩) ?_ ?_
        rotate_left
        ·
         intro w'
         go_simp
         with_reducible rfl
        rotate_left
        ·
         simp only [Act.put, List.setIfInBounds_toArray, List.set_cons_zero, List.set_cons_succ, i64_w, i32_w]
         rfl
        refine pure_ (i := 12) (N := some 57) (v := ?_) (a' := ?_) #[true, true, false, true, false, false, true, true, false, true, false, false, true, false, false, false, false, false, false, false, false, false, false, false, false, false, false, false, false, false, false, false, false, false, false, false, false, false, false, false, false, false] rfl rfl (any_of HT_.out (by kernel_rfl)) (fun _ _ _ h => h) (Or.inl ⟨by rfl, ?_⟩) ?_ ?_
        rotate_left
        ·
         intro w'
         go_simp
         with_reducible rfl
        rotate_left
        ·
         simp only [Act.put, List.setIfInBounds_toArray, List.set_cons_zero, List.set_cons_succ, i64_w, i32_w]
         rfl
        refine take_ (i := 2) (N := some 47) (v := ?_) (a' := ?_) #[true, true, true, true, false, false, true, true, false, true, false, false, true, false, false, false, false, false, false, false, false, false, false, false, false, false, false, false, false, false, false, false, false, false, false, false, false, false, false, false, false, false] rfl rfl (take_ofW HT_.out HW_.out (by kernel_rfl)) (fun _ _ _ h => h) (Or.inl ⟨by rfl, ?_⟩) hHeld ?_ ?_
        rotate_left
        ·
         rintro w' ⟨s0, s1, s2, s3, s4⟩
         go_simp
         with_reducible rfl
        rotate_left
        ·
         simp only [Act.put, List.setIfInBounds_toArray, List.set_cons_zero, List.set_cons_succ, i64_w, i32_w]
         rfl
        refine take_ (i := 4) (N := some 49) (v := ?_) (a' := ?_) #[true, true, true, true, true, false, true, true, false, true, false, false, true, false, false, false, false, false, false, false, false, false, false, false, false, false, false, false, false, false, false, false, false, false, false, false, false, false, false, false, false, false] rfl rfl (take_ofW HT_.out HW_.out (by kernel_rfl)) (fun _ _ _ h => h) (Or.inl ⟨by rfl, ?_⟩) hHeld ?_ ?_
        rotate_left
        ·
         rintro w' ⟨s0, s1, s2, s3, s4⟩
         go_simp
         with_reducible rfl
        rotate_left
        ·
         simp only [Act.put, List.setIfInBounds_toArray, List.set_cons_zero, List.set_cons_succ, i64_w, i32_w]
         rfl
        refine take_ (i := 8) (N := some 53) (v := ?_) (a' := ?_) #[true, true, true, true, true, false, true, true, true, true, false, false, true, false, false, false, false, false, false, false, false, false, false, false, false, false, false, false, false, false, false, false, false, false, false, false, false, false, false, false, false, false] rfl rfl (take_ofW HT_.out HW_.out (by kernel_rfl)) (fun _ _ _ h => h) (Or.inl ⟨by rfl, ?_⟩) hHeld ?_ ?_
        rotate_left
        ·
         rintro w' ⟨s0, s1, s2, s3, s4⟩
         go_simp
         with_reducible rfl
        rotate_left
        ·
         simp only [Act.put, List.setIfInBounds_toArray, List.set_cons_zero, List.set_cons_succ, i64_w, i32_w]
         rfl
        refine take_ (i := 10) (N := some 55) (v := ?_) (a' := ?_) #[true, true, true, true, true, false, true, true, true, true, true, false, true, false, false, false, false, false, false, false, false, false, false, false, false, false, false, false, false, false, false, false, false, false, false, false, false, false, false, false, false, false] rfl rfl (take_ofW HT_.out HW_.out (by kernel_rfl)) (fun _ _ _ h => h) (Or.inl ⟨by rfl, ?_⟩) hHeld ?_ ?_
        rotate_left
        ·
         rintro w' ⟨s0, s1, s2, s3, s4⟩
         go_simp
         with_reducible rfl
        rotate_left
        ·
         simp only [Act.put, List.setIfInBounds_toArray, List.set_cons_zero, List.set_cons_succ, i64_w, i32_w]
         rfl
        refine take_ (i := 13) (N := some 58) (v := ?_) (a' := ?_) #[true, true, true, true, true, false, true, true, true, true, true, false, true, true, false, false, false, false, false, false, false, false, false, false, false, false, false, false, false, false, false, false, false, false, false, false, false, false, false, false, false, false] rfl rfl (take_ofW HT_.out HW_.out (by kernel_rfl)) (fun _ _ _ h => h) (Or.inl ⟨by rfl, ?_⟩) hHeld ?_ ?_
        rotate_left
        ·
         rintro w' ⟨s0, s1, s2, s3, s4⟩
         go_simp
         with_reducible rfl
        rotate_left
        ·
         simp only [Act.put, List.setIfInBounds_toArray, List.set_cons_zero, List.set_cons_succ, i64_w, i32_w]
         rfl
        refine one_ (i := 5) (N := some 50) #[true, true, true, true, true, true, true, true, true, true, true, false, true, true, false, false, false, false, false, false, false, false, false, false, false, false, false, false, false, false, false, false, false, false, false, false, false, false, false, false, false, false] rfl rfl (one_of HT_.out (by kernel_rfl)) (by decide) (fun K hK => ?_)
        refine goes_ Try.func20 (by kernel_rfl) rfl #[.slice Ao33 t551.length co33, .int .i64 t545, .int .i64 t546] (by rfl) rfl rfl (bc_) ?_
        with_reducible refine (impl_LotsQty.calls k _ _ t551 t545 t546 t560 _ ?side1 ?side2 A26.out).mono ?_
        (case side1 => repeat (first | exact (Kd.R_reads' HO553.out).2.2 | (with_reducible refine Kd.C_alloc ?_ _) | (with_reducible refine Kd.C_drewN ?_ _) | (with_reducible refine Kd.C_drew ?_)))
        (case side2 => exact (Kd.R_reads' HO553.out).2.1)
        rintro e w34 ⟨rfl, hb⟩
        refine ⟨_, rfl, ?_⟩
        have n0_ := Aside0.mk (Kd.R_below (pe_ HO544.out) hb)
        have n1_ := Aside0.mk (Kd.R_below (pe_ HO553.out) hb)
        have n2_ := Aside0.mk (Kd.R_below (pe_ HO557.out) hb)
        have n3_ := Aside0.mk (blk_below (g := gb550) (o := .cells #[.int .i64 t545, .int .i64 t546, .int .i64 t547, .int .i64 t548, .int .i64 t549] 37 (0, 0)) (pb_ BK550.out) hb)
        have n4_ := Aside0.mk (below_step (bg_ GE550.out) hb)
        clear HO544
        clear HO553
        clear HO557
        clear BK550
        clear HB
        have HO544 := n0_
        have HO553 := n1_
        have HO557 := n2_
        have BK550 := n3_
        have HB := n4_
        clear n0_ n1_ n2_ n3_ n4_
        (try clear hb)
        (try clear hb2)
        (try clear hk)
        (try clear hi)
        refine hK.out _ _ ⟨(blk_cell BK550.out 0).trans rfl, (blk_cell BK550.out 1).trans rfl, (blk_cell BK550.out 2).trans rfl, (blk_cell BK550.out 3).trans rfl, (blk_cell BK550.out 4).trans rfl⟩ (fun hHeld => ?_)
        clear hK K
        refine norm_ (a' := ?_) ?_ ?_
        rotate_left
        ·
         show Act.put _ (some 50) _ = _
         simp only [Act.put, List.setIfInBounds_toArray, List.set_cons_zero, List.set_cons_succ, i64_w, i32_w]
         rfl
        refine one_ (i := 11) (N := some 56) #[true, true, true, true, true, true, true, true, true, true, true, true, true, true, false, false, false, false, false, false, false, false, false, false, false, false, false, false, false, false, false, false, false, false, false, false, false, false, false, false, false, false] rfl rfl (one_of HT_.out (by kernel_rfl)) (by decide) (fun K hK => ?_)
        refine goes_ Try.func19 (by kernel_rfl) rfl #[.slice Ao22 t542.length co22, .int .i64 t545, .int .i64 t546] (by rfl) rfl rfl (bc_) ?_
        with_reducible refine (spec_LotsQty.calls k _ _ t542 t545 t546 t561 _ ?side1 ?side2 A27.out).mono ?_
        (case side1 => repeat (first | exact (Kd.R_reads' HO544.out).2.2 | (with_reducible refine Kd.C_alloc ?_ _) | (with_reducible refine Kd.C_drewN ?_ _) | (with_reducible refine Kd.C_drew ?_)))
        (case side2 => exact (Kd.R_reads' HO544.out).2.1)
        rintro e w35 ⟨rfl, hb⟩
        refine ⟨_, rfl, ?_⟩
        have n0_ := Aside0.mk (Kd.R_below (pe_ HO544.out) hb)
        have n1_ := Aside0.mk (Kd.R_below (pe_ HO553.out) hb)
        have n2_ := Aside0.mk (Kd.R_below (pe_ HO557.out) hb)
        have n3_ := Aside0.mk (blk_below (g := gb550) (o := .cells #[.int .i64 t545, .int .i64 t546, .int .i64 t547, .int .i64 t548, .int .i64 t549] 37 (0, 0)) (pb_ BK550.out) hb)
        have n4_ := Aside0.mk (below_step (bg_ GE550.out) hb)
        clear HO544
        clear HO553
        clear HO557
        clear BK550
        clear HB
        have HO544 := n0_
        have HO553 := n1_
        have HO557 := n2_
        have BK550 := n3_
        have HB := n4_
        clear n0_ n1_ n2_ n3_ n4_
        (try clear hb)
        (try clear hb2)
        (try clear hk)
        (try clear hi)
        refine hK.out _ _ ⟨(blk_cell BK550.out 0).trans rfl, (blk_cell BK550.out 1).trans rfl, (blk_cell BK550.out 2).trans rfl, (blk_cell BK550.out 3).trans rfl, (blk_cell BK550.out 4).trans rfl⟩ (fun hHeld => ?_)
        clear hK K
        refine norm_ (a' := ?_) ?_ ?_
        rotate_left
        ·
         show Act.put _ (some 56) _ = _
         simp only [Act.put, List.setIfInBounds_toArray, List.set_cons_zero, List.set_cons_succ, i64_w, i32_w]
         rfl
        refine pure_ (i := 14) (N := some 59) (v := ?_) (a' := ?_) #[true, true, true, true, true, true, true, true, true, true, true, true, true, true, true, false, false, false, false, false, false, false, false, false, false, false, false, false, false, false, false, false, false, false, false, false, false, false, false, false, false, false] rfl rfl (any_of HT_.out (by kernel_rfl)) (fun _ _ _ h => h) (Or.inl ⟨by rfl, ?_⟩) ?_ ?_
        rotate_left
        ·
         intro w'
         go_simp
         with_reducible rfl
        rotate_left
        ·
         simp only [Act.put, List.setIfInBounds_toArray, List.set_cons_zero, List.set_cons_succ, i64_w, i32_w]
         rfl
        refine pure_ (i := 15) (N := some 60) (v := ?_) (a' := ?_) #[true, true, true, true, true, true, true, true, true, true, true, true, true, true, true, true, false, false, false, false, false, false, false, false, false, false, false, false, false, false, false, false, false, false, false, false, false, false, false, false, false, false] rfl rfl (any_of HT_.out (by kernel_rfl)) (fun _ _ _ h => h) (Or.inl ⟨by rfl, ?_⟩) ?_ ?_
        rotate_left
        ·
         intro w'
         go_simp
         with_reducible rfl
        rotate_left
        ·
         simp only [Act.put, List.setIfInBounds_toArray, List.set_cons_zero, List.set_cons_succ, i64_w, i32_w]
         rfl
        refine pure_ (i := 16) (N := some 61) (v := ?_) (a' := ?_) #[true, true, true, true, true, true, true, true, true, true, true, true, true, true, true, true, true, false, false, false, false, false, false, false, false, false, false, false, false, false, false, false, false, false, false, false, false, false, false, false, false, false] rfl rfl (any_of HT_.out (by kernel_rfl)) (fun _ _ _ h => h) (Or.inl ⟨by rfl, ?_⟩) ?_ ?_
        rotate_left
        ·
         intro w'
         go_simp
         with_reducible rfl
        rotate_left
        ·
         simp only [Act.put, List.setIfInBounds_toArray, List.set_cons_zero, List.set_cons_succ, i64_w, i32_w]
         rfl
        refine pure_ (i := 17) (N := some 62) (v := ?_) (a' := ?_) #[true, true, true, true, true, true, true, true, true, true, true, true, true, true, true, true, true, true, false, false, false, false, false, false, false, false, false, false, false, false, false, false, false, false, false, false, false, false, false, false, false, false] rfl rfl (any_of HT_.out (by kernel_rfl)) (fun _ _ _ h => h) (Or.inl ⟨by rfl, ?_⟩) ?_ ?_
        rotate_left
        ·
         intro w'
         go_simp
         with_reducible rfl
        rotate_left
        ·
         simp only [Act.put, List.setIfInBounds_toArray, List.set_cons_zero, List.set_cons_succ, i64_w, i32_w]
         rfl
        refine pure_ (i := 18) (N := some 63) (v := ?_) (a' := ?_) #[true, true, true, true, true, true, true, true, true, true, true, true, true, true, true, true, true, true, true, false, false, false, false, false, false, false, false, false, false, false, false, false, false, false, false, false, false, false, false, false, false, false] rfl rfl (any_of HT_.out (by kernel_rfl)) (fun _ _ _ h => h) (Or.inl ⟨by rfl, ?_⟩) ?_ ?_
        rotate_left
        ·
         intro w'
         go_simp
         with_reducible rfl
        rotate_left
        ·
         simp only [Act.put, List.setIfInBounds_toArray, List.set_cons_zero, List.set_cons_succ, i64_w, i32_w]
         rfl
        refine pure_ (i := 20) (N := some 65) (v := ?_) (a' := ?_) #[true, true, true, true, true, true, true, true, true, true, true, true, true, true, true, true, true, true, true, false, true, false, false, false, false, false, false, false, false, false, false, false, false, false, false, false, false, false, false, false, false, false] rfl rfl (any_of HT_.out (by kernel_rfl)) (fun _ _ _ h => h) (Or.inl ⟨by rfl, ?_⟩) ?_ ?_
        rotate_left
        ·
         intro w'
         go_simp
         with_reducible rfl
        rotate_left
        ·
         simp only [Act.put, List.setIfInBounds_toArray, List.set_cons_zero, List.set_cons_succ, i64_w, i32_w]
         rfl
        refine pure_ (i := 23) (N := some 68) (v := ?_) (a' := ?_) #[true, true, true, true, true, true, true, true, true, true, true, true, true, true, true, true, true, true, true, false, true, false, false, true, false, false, false, false, false, false, false, false, false, false, false, false, false, false, false, false, false, false] rfl rfl (any_of HT_.out (by kernel_rfl)) (fun _ _ _ h => h) (Or.inl ⟨by rfl, ?_⟩) ?_ ?_
        rotate_left
        ·
         intro w'
         go_simp
         with_reducible rfl
        rotate_left
        ·
         simp only [Act.put, List.setIfInBounds_toArray, List.set_cons_zero, List.set_cons_succ, i64_w, i32_w]
         rfl
        refine pure_ (i := 24) (N := some 69) (v := ?_) (a' := ?_) #[true, true, true, true, true, true, true, true, true, true, true, true, true, true, true, true, true, true, true, false, true, false, false, true, true, false, false, false, false, false, false, false, false, false, false, false, false, false, false, false, false, false] rfl rfl (any_of HT_.out (by kernel_rfl)) (fun _ _ _ h => h) (Or.inl ⟨by rfl, ?_⟩) ?_ ?_
        rotate_left
        ·
         intro w'
         go_simp
         with_reducible rfl
        rotate_left
        ·
         simp only [Act.put, List.setIfInBounds_toArray, List.set_cons_zero, List.set_cons_succ, i64_w, i32_w]
         rfl
        refine pure_ (i := 26) (N := some 71) (v := ?_) (a' := ?_) #[true, true, true, true, true, true, true, true, true, true, true, true, true, true, true, true, true, true, true, false, true, false, false, true, true, false, true, false, false, false, false, false, false, false, false, false, false, false, false, false, false, false] rfl rfl (any_of HT_.out (by kernel_rfl)) (fun _ _ _ h => h) (Or.inl ⟨by rfl, ?_⟩) ?_ ?_
        rotate_left
        ·
         intro w'
         go_simp
         with_reducible rfl
        rotate_left
        ·
         simp only [Act.put, List.setIfInBounds_toArray, List.set_cons_zero, List.set_cons_succ, i64_w, i32_w]
         rfl
        refine pure_ (i := 29) (N := some 74) (v := ?_) (a' := ?_) #[true, true, true, true, true, true, true, true, true, true, true, true, true, true, true, true, true, true, true, false, true, false, false, true, true, false, true, false, false, true, false, false, false, false, false, false, false, false, false, false, false, false] rfl rfl (any_of HT_.out (by kernel_rfl)) (fun _ _ _ h => h) (Or.inl ⟨by rfl, ?_⟩) ?_ ?_
        rotate_left
        ·
         intro w'
         go_simp
         with_reducible rfl
        rotate_left
        ·
         simp only [Act.put, List.setIfInBounds_toArray, List.set_cons_zero, List.set_cons_succ, i64_w, i32_w]
         rfl
        refine take_ (i := 19) (N := some 64) (v := ?_) (a' := ?_) #[true, true, true, true, true, true, true, true, true, true, true, true, true, true, true, true, true, true, true, true, true, false, false, true, true, false, true, false, false, true, false, false, false, false, false, false, false, false, false, false, false, false] rfl rfl (take_ofW HT_.out HW_.out (by kernel_rfl)) (fun _ _ _ h => h) (Or.inl ⟨by rfl, ?_⟩) hHeld ?_ ?_
        rotate_left
        ·
         rintro w' ⟨s0, s1, s2, s3, s4⟩
         go_simp
         with_reducible rfl
        rotate_left
        ·
         simp only [Act.put, List.setIfInBounds_toArray, List.set_cons_zero, List.set_cons_succ, i64_w, i32_w]
         rfl
        refine take_ (i := 21) (N := some 66) (v := ?_) (a' := ?_) #[true, true, true, true, true, true, true, true, true, true, true, true, true, true, true, true, true, true, true, true, true, true, false, true, true, false, true, false, false, true, false, false, false, false, false, false, false, false, false, false, false, false] rfl rfl (take_ofW HT_.out HW_.out (by kernel_rfl)) (fun _ _ _ h => h) (Or.inl ⟨by rfl, ?_⟩) hHeld ?_ ?_
        rotate_left
        ·
         rintro w' ⟨s0, s1, s2, s3, s4⟩
         go_simp
         with_reducible rfl
        rotate_left
        ·
         simp only [Act.put, List.setIfInBounds_toArray, List.set_cons_zero, List.set_cons_succ, i64_w, i32_w]
         rfl
        refine take_ (i := 25) (N := some 70) (v := ?_) (a' := ?_) #[true, true, true, true, true, true, true, true, true, true, true, true, true, true, true, true, true, true, true, true, true, true, false, true, true, true, true, false, false, true, false, false, false, false, false, false, false, false, false, false, false, false] rfl rfl (take_ofW HT_.out HW_.out (by kernel_rfl)) (fun _ _ _ h => h) (Or.inl ⟨by rfl, ?_⟩) hHeld ?_ ?_
        rotate_left
        ·
         rintro w' ⟨s0, s1, s2, s3, s4⟩
         go_simp
         with_reducible rfl
        rotate_left
        ·
         simp only [Act.put, List.setIfInBounds_toArray, List.set_cons_zero, List.set_cons_succ, i64_w, i32_w]
         rfl
        refine take_ (i := 27) (N := some 72) (v := ?_) (a' := ?_) #[true, true, true, true, true, true, true, true, true, true, true, true, true, true, true, true, true, true, true, true, true, true, false, true, true, true, true, true, false, true, false, false, false, false, false, false, false, false, false, false, false, false] rfl rfl (take_ofW HT_.out HW_.out (by kernel_rfl)) (fun _ _ _ h => h) (Or.inl ⟨by rfl, ?_⟩) hHeld ?_ ?_
        rotate_left
        ·
         rintro w' ⟨s0, s1, s2, s3, s4⟩
         go_simp
         with_reducible rfl
        rotate_left
        ·
         simp only [Act.put, List.setIfInBounds_toArray, List.set_cons_zero, List.set_cons_succ, i64_w, i32_w]
         rfl
        refine take_ (i := 30) (N := some 75) (v := ?_) (a' := ?_) #[true, true, true, true, true, true, true, true, true, true, true, true, true, true, true, true, true, true, true, true, true, true, false, true, true, true, true, true, false, true, true, false, false, false, false, false, false, false, false, false, false, false] rfl rfl (take_ofW HT_.out HW_.out (by kernel_rfl)) (fun _ _ _ h => h) (Or.inl ⟨by rfl, ?_⟩) hHeld ?_ ?_
        rotate_left
        ·
         rintro w' ⟨s0, s1, s2, s3, s4⟩
         go_simp
         with_reducible rfl
        rotate_left
        ·
         simp only [Act.put, List.setIfInBounds_toArray, List.set_cons_zero, List.set_cons_succ, i64_w, i32_w]
         rfl
        refine one_ (i := 22) (N := some 67) #[true, true, true, true, true, true, true, true, true, true, true, true, true, true, true, true, true, true, true, true, true, true, true, true, true, true, true, true, false, true, true, false, false, false, false, false, false, false, false, false, false, false] rfl rfl (one_of HT_.out (by kernel_rfl)) (by decide) (fun K hK => ?_)
        refine goes_ Try.func22 (by kernel_rfl) rfl #[.slice Ao33 t551.length co33, .int .i64 t545, .int .i64 t546] (by rfl) rfl rfl (bc_) ?_
        with_reducible refine (impl_LotsCost.calls k _ _ t551 t545 t546 t562 _ ?side1 ?side2 A29.out).mono ?_
        (case side1 => repeat (first | exact (Kd.R_reads' HO553.out).2.2 | (with_reducible refine Kd.C_alloc ?_ _) | (with_reducible refine Kd.C_drewN ?_ _) | (with_reducible refine Kd.C_drew ?_)))
        (case side2 => exact (Kd.R_reads' HO553.out).2.1)
        rintro e w36 ⟨rfl, hb⟩
        refine ⟨_, rfl, ?_⟩
        have n0_ := Aside0.mk (Kd.R_below (pe_ HO544.out) hb)
        have n1_ := Aside0.mk (Kd.R_below (pe_ HO553.out) hb)
        have n2_ := Aside0.mk (Kd.R_below (pe_ HO557.out) hb)
        have n3_ := Aside0.mk (blk_below (g := gb550) (o := .cells #[.int .i64 t545, .int .i64 t546, .int .i64 t547, .int .i64 t548, .int .i64 t549] 37 (0, 0)) (pb_ BK550.out) hb)
        have n4_ := Aside0.mk (below_step (bg_ GE550.out) hb)
        clear HO544
        clear HO553
        clear HO557
        clear BK550
        clear HB
        have HO544 := n0_
        have HO553 := n1_
        have HO557 := n2_
        have BK550 := n3_
        have HB := n4_
        clear n0_ n1_ n2_ n3_ n4_
        (try clear hb)
        (try clear hb2)
        (try clear hk)
        (try clear hi)
        refine hK.out _ _ ⟨(blk_cell BK550.out 0).trans rfl, (blk_cell BK550.out 1).trans rfl, (blk_cell BK550.out 2).trans rfl, (blk_cell BK550.out 3).trans rfl, (blk_cell BK550.out 4).trans rfl⟩ (fun hHeld => ?_)
        clear hK K
        refine norm_ (a' := ?_) ?_ ?_
        rotate_left
        ·
         show Act.put _ (some 67) _ = _
         simp only [Act.put, List.setIfInBounds_toArray, List.set_cons_zero, List.set_cons_succ, i64_w, i32_w]
         rfl
        refine one_ (i := 28) (N := some 73) #[true, true, true, true, true, true, true, true, true, true, true, true, true, true, true, true, true, true, true, true, true, true, true, true, true, true, true, true, true, true, true, false, false, false, false, false, false, false, false, false, false, false] rfl rfl (one_of HT_.out (by kernel_rfl)) (by decide) (fun K hK => ?_)
        refine goes_ Try.func21 (by kernel_rfl) rfl #[.slice Ao22 t542.length co22, .int .i64 t545, .int .i64 t546] (by rfl) rfl rfl (bc_) ?_
        with_reducible refine (spec_LotsCost.calls k _ _ t542 t545 t546 t563 _ ?side1 ?side2 A30.out).mono ?_
        (case side1 => repeat (first | exact (Kd.R_reads' HO544.out).2.2 | (with_reducible refine Kd.C_alloc ?_ _) | (with_reducible refine Kd.C_drewN ?_ _) | (with_reducible refine Kd.C_drew ?_)))
        (case side2 => exact (Kd.R_reads' HO544.out).2.1)
        rintro e w37 ⟨rfl, hb⟩
        refine ⟨_, rfl, ?_⟩
        have n0_ := Aside0.mk (Kd.R_below (pe_ HO544.out) hb)
        have n1_ := Aside0.mk (Kd.R_below (pe_ HO553.out) hb)
        have n2_ := Aside0.mk (Kd.R_below (pe_ HO557.out) hb)
        have n3_ := Aside0.mk (blk_below (g := gb550) (o := .cells #[.int .i64 t545, .int .i64 t546, .int .i64 t547, .int .i64 t548, .int .i64 t549] 37 (0, 0)) (pb_ BK550.out) hb)
        have n4_ := Aside0.mk (below_step (bg_ GE550.out) hb)
        clear HO544
        clear HO553
        clear HO557
        clear BK550
        clear HB
        have HO544 := n0_
        have HO553 := n1_
        have HO557 := n2_
        have BK550 := n3_
        have HB := n4_
        clear n0_ n1_ n2_ n3_ n4_
        (try clear hb)
        (try clear hb2)
        (try clear hk)
        (try clear hi)
        refine hK.out _ _ ⟨(blk_cell BK550.out 0).trans rfl, (blk_cell BK550.out 1).trans rfl, (blk_cell BK550.out 2).trans rfl, (blk_cell BK550.out 3).trans rfl, (blk_cell BK550.out 4).trans rfl⟩ (fun hHeld => ?_)
        clear hK K
        refine norm_ (a' := ?_) ?_ ?_
        rotate_left
        ·
         show Act.put _ (some 73) _ = _
         simp only [Act.put, List.setIfInBounds_toArray, List.set_cons_zero, List.set_cons_succ, i64_w, i32_w]
         rfl
        refine pure_ (i := 31) (N := some 76) (v := ?_) (a' := ?_) #[true, true, true, true, true, true, true, true, true, true, true, true, true, true, true, true, true, true, true, true, true, true, true, true, true, true, true, true, true, true, true, true, false, false, false, false, false, false, false, false, false, false] rfl rfl (any_of HT_.out (by kernel_rfl)) (fun _ _ _ h => h) (Or.inl ⟨by rfl, ?_⟩) ?_ ?_
        rotate_left
        ·
         intro w'
         go_simp
         with_reducible rfl
        rotate_left
        ·
         simp only [Act.put, List.setIfInBounds_toArray, List.set_cons_zero, List.set_cons_succ, i64_w, i32_w]
         rfl
        refine pure_ (i := 32) (N := some 77) (v := ?_) (a' := ?_) #[true, true, true, true, true, true, true, true, true, true, true, true, true, true, true, true, true, true, true, true, true, true, true, true, true, true, true, true, true, true, true, true, true, false, false, false, false, false, false, false, false, false] rfl rfl (any_of HT_.out (by kernel_rfl)) (fun _ _ _ h => h) (Or.inl ⟨by rfl, ?_⟩) ?_ ?_
        rotate_left
        ·
         intro w'
         go_simp
         with_reducible rfl
        rotate_left
        ·
         simp only [Act.put, List.setIfInBounds_toArray, List.set_cons_zero, List.set_cons_succ, i64_w, i32_w]
         rfl
        refine pure_ (i := 33) (N := some 78) (v := ?_) (a' := ?_) #[true, true, true, true, true, true, true, true, true, true, true, true, true, true, true, true, true, true, true, true, true, true, true, true, true, true, true, true, true, true, true, true, true, true, false, false, false, false, false, false, false, false] rfl rfl (any_of HT_.out (by kernel_rfl)) (fun _ _ _ h => h) (Or.inl ⟨by rfl, ?_⟩) ?_ ?_
        rotate_left
        ·
         intro w'
         go_simp
         with_reducible rfl
        rotate_left
        ·
         simp only [Act.put, List.setIfInBounds_toArray, List.set_cons_zero, List.set_cons_succ, i64_w, i32_w]
         rfl
        refine pure_ (i := 34) (N := some 79) (v := ?_) (a' := ?_) #[true, true, true, true, true, true, true, true, true, true, true, true, true, true, true, true, true, true, true, true, true, true, true, true, true, true, true, true, true, true, true, true, true, true, true, false, false, false, false, false, false, false] rfl rfl (any_of HT_.out (by kernel_rfl)) (fun _ _ _ h => h) (Or.inl ⟨by rfl, ?_⟩) ?_ ?_
        rotate_left
        ·
         intro w'
         go_simp
         with_reducible rfl
        rotate_left
        ·
         simp only [Act.put, List.setIfInBounds_toArray, List.set_cons_zero, List.set_cons_succ, i64_w, i32_w]
         rfl
        refine pure_ (i := 35) (N := some 80) (v := ?_) (a' := ?_) #[true, true, true, true, true, true, true, true, true, true, true, true, true, true, true, true, true, true, true, true, true, true, true, true, true, true, true, true, true, true, true, true, true, true, true, true, false, false, false, false, false, false] rfl rfl (any_of HT_.out (by kernel_rfl)) (fun _ _ _ h => h) (Or.inl ⟨by rfl, ?_⟩) ?_ ?_
        rotate_left
        ·
         intro w'
         go_simp
         with_reducible rfl
        rotate_left
        ·
         simp only [Act.put, List.setIfInBounds_toArray, List.set_cons_zero, List.set_cons_succ, i64_w, i32_w]
         rfl
        refine pure_ (i := 36) (N := some 81) (v := ?_) (a' := ?_) #[true, true, true, true, true, true, true, true, true, true, true, true, true, true, true, true, true, true, true, true, true, true, true, true, true, true, true, true, true, true, true, true, true, true, true, true, true, false, false, false, false, false] rfl rfl (any_of HT_.out (by kernel_rfl)) (fun _ _ _ h => h) (Or.inl ⟨by rfl, ?_⟩) ?_ ?_
        rotate_left
        ·
         intro w'
         go_simp
         with_reducible rfl
        rotate_left
        ·
         simp only [Act.put, List.setIfInBounds_toArray, List.set_cons_zero, List.set_cons_succ, i64_w, i32_w]
         rfl
        refine pure_ (i := 37) (N := some 82) (v := ?_) (a' := ?_) #[true, true, true, true, true, true, true, true, true, true, true, true, true, true, true, true, true, true, true, true, true, true, true, true, true, true, true, true, true, true, true, true, true, true, true, true, true, true, false, false, false, false] rfl rfl (any_of HT_.out (by kernel_rfl)) (fun _ _ _ h => h) (Or.inl ⟨by rfl, ?_⟩) ?_ ?_
        rotate_left
        ·
         intro w'
         go_simp
         with_reducible rfl
        rotate_left
        ·
         simp only [Act.put, List.setIfInBounds_toArray, List.set_cons_zero, List.set_cons_succ, i64_w, i32_w]
         rfl
        refine pure_ (i := 38) (N := some 83) (v := ?_) (a' := ?_) #[true, true, true, true, true, true, true, true, true, true, true, true, true, true, true, true, true, true, true, true, true, true, true, true, true, true, true, true, true, true, true, true, true, true, true, true, true, true, true, false, false, false] rfl rfl (any_of HT_.out (by kernel_rfl)) (fun _ _ _ h => h) (Or.inl ⟨by rfl, ?_⟩) ?_ ?_
        rotate_left
        ·
         intro w'
         go_simp
         with_reducible rfl
        rotate_left
        ·
         simp only [Act.put, List.setIfInBounds_toArray, List.set_cons_zero, List.set_cons_succ, i64_w, i32_w]
         rfl
        refine pure_ (i := 39) (N := some 84) (v := ?_) (a' := ?_) #[true, true, true, true, true, true, true, true, true, true, true, true, true, true, true, true, true, true, true, true, true, true, true, true, true, true, true, true, true, true, true, true, true, true, true, true, true, true, true, true, false, false] rfl rfl (any_of HT_.out (by kernel_rfl)) (fun _ _ _ h => h) (Or.inl ⟨by rfl, ?_⟩) ?_ ?_
        rotate_left
        ·
         intro w'
         go_simp
         with_reducible rfl
        rotate_left
        ·
         simp only [Act.put, List.setIfInBounds_toArray, List.set_cons_zero, List.set_cons_succ, i64_w, i32_w]
         rfl
        refine pure_ (i := 40) (N := some 85) (v := ?_) (a' := ?_) #[true, true, true, true, true, true, true, true, true, true, true, true, true, true, true, true, true, true, true, true, true, true, true, true, true, true, true, true, true, true, true, true, true, true, true, true, true, true, true, true, true, false] rfl rfl (any_of HT_.out (by kernel_rfl)) (fun _ _ _ h => h) (Or.inl ⟨by rfl, ?_⟩) ?_ ?_
        rotate_left
        ·
         intro w'
         go_simp
         with_reducible rfl
        rotate_left
        ·
         simp only [Act.put, List.setIfInBounds_toArray, List.set_cons_zero, List.set_cons_succ, i64_w, i32_w]
         rfl
        refine pure_ (i := 41) (N := some 86) (v := ?_) (a' := ?_) #[true, true, true, true, true, true, true, true, true, true, true, true, true, true, true, true, true, true, true, true, true, true, true, true, true, true, true, true, true, true, true, true, true, true, true, true, true, true, true, true, true, true] rfl rfl (any_of HT_.out (by kernel_rfl)) (fun _ _ _ h => h) (Or.inl ⟨by rfl, ?_⟩) ?_ ?_
        rotate_left
        ·
         intro w'
         go_simp
         with_reducible rfl
        rotate_left
        ·
         simp only [Act.put, List.setIfInBounds_toArray, List.set_cons_zero, List.set_cons_succ, i64_w, i32_w]
         rfl
        refine done_ (done_of HT_.out (by kernel_rfl)) ?_
        try go_wp2
        go_meet
        case rel => exact ⟨_, (((t551.length : Int) != (wrap64 ((t542.length : Int) + 1)))), (by first | rfl | (simp; done) | (simp [*]; done)), H', ⟨by first | omega | exact Nat.le_refl _⟩, ⟨by (with_reducible repeat (first | apply Kd.R_alloc | apply Kd.R_drewN | apply Kd.R_drew)); exact Kd.R_mono HO553.out (fun _ hk => hk.1.2)⟩, ⟨by (with_reducible repeat (first | refine blk_drewN ?_ _ | refine blk_drew ?_ | refine blk_alloc ?_ _)); exact BK550.out⟩, ⟨bg_ GE550.out⟩⟩
       ·
        rw [if_neg c31] at H
        have c31b0 : (t562 == (wrap64 (t563 + t549))) = false := beq_eq_false_iff_ne.mpr c31
        have c31b1 : (t562 != (wrap64 (t563 + t549))) = true := bne_iff_ne.mpr c31
        exact absurd H (by simp)
      ·
       rw [if_neg c28] at H
       have c28b0 : (t560 == (wrap64 (t561 + t548))) = false := beq_eq_false_iff_ne.mpr c28
       have c28b1 : (t560 != (wrap64 (t561 + t548))) = true := bne_iff_ne.mpr c28
       (first | rw [c28b0] | (simp only [i64_w, i32_w]; rw [c28b0]) | skip)
       exact absurd H (by simp)
     case rest =>
      clear HC18
      try clear c1
      try clear c2
      try clear p2
      try clear c3
      try clear p6
      try clear c7
      try clear c7b0
      try clear c7b1
      try clear c8
      try clear c8b0
      try clear c8b1
      try clear c17
      try clear c17b0
      try clear c17b1
      try clear c19
      try clear c20
      try clear c21
      try clear c22
      try clear c27
      try clear c28
      try clear c28b0
      try clear c28b1
      try clear c29
      try clear c30
      try clear c31
      try clear c31b0
      try clear c31b1
      try clear hcz11_0
      try clear hcz11_1
      try clear hcz11_2
      try clear hcz11_3
      try clear hcz11_4
      try clear hcz14_0
      try clear hcz14_1
      try clear hcz14_2
      try clear hcz14_3
      try clear hcz14_4
      try clear hcz21_0
      try clear hcz21_1
      try clear hcz21_2
      try clear hcz21_3
      try clear hcz21_4
      try clear hcz24_0
      try clear hcz24_1
      try clear hcz24_2
      try clear hcz24_3
      try clear hcz24_4
      try clear hfz11_0
      try clear hfz11_1
      try clear hfz11_2
      try clear hfz11_3
      try clear hfz11_4
      try clear hfz14_0
      try clear hfz14_1
      try clear hfz14_2
      try clear hfz14_3
      try clear hfz14_4
      try clear hfz21_0
      try clear hfz21_1
      try clear hfz21_2
      try clear hfz21_3
      try clear hfz21_4
      try clear hfz24_0
      try clear hfz24_1
      try clear hfz24_2
      try clear hfz24_3
      try clear hfz24_4
      obtain ⟨kq, x86_17, rfl, HA, HJ17, HO_5, BK550, HB⟩ := hcut
      cases kq with
      | zero => exact absurd HA.out (by simp [laws_FnOpened.j0])
      | succ kj17 =>
       have H := HA.out
       clear HA
       simp only [laws_FnOpened.j0] at H
       by_cases c38 : x86_17 = true
       ·
        subst c38
        have H1 : (none) = some r := by rw [if_pos rfl] at H; exact H
        clear H
        have H := H1
        clear H1
        exact absurd H (by simp)
       ·
        replace c38 := Bool.eq_false_iff.mpr c38
        subst c38
        have H1 : ((impl_LotsOf.f t551 t545 t546).bind fun t564 => (laws_FnOpened.l0 kj17 t564 (-1) (-1) 0 t545 t546 t547 t548 t549)) = some r := by rw [if_neg (show ¬ (false = true) by decide)] at H; exact H
        clear H
        have H := H1
        clear H1
        replace H := Option.bind_eq_some_iff.mp H
        obtain ⟨t564, A390, H⟩ := H
        replace H : (laws_FnOpened.l0 kj17 t564 (-1) (-1) 0 t545 t546 t547 t548 t549) = some r := H
        have A39 := Aside0.mk A390
        clear A390
        have H' := Aside0.mk H
        clear H
        have hcz40_0 : wc.cell? ⟨gb550, 0, none⟩ = some (.int .i64 t545) := (blk_cell BK550.out 0).trans rfl
        have hcz40_1 : wc.cell? ⟨gb550, 1, none⟩ = some (.int .i64 t546) := (blk_cell BK550.out 1).trans rfl
        have hcz40_2 : wc.cell? ⟨gb550, 2, none⟩ = some (.int .i64 t547) := (blk_cell BK550.out 2).trans rfl
        have hcz40_3 : wc.cell? ⟨gb550, 3, none⟩ = some (.int .i64 t548) := (blk_cell BK550.out 3).trans rfl
        have hcz40_4 : wc.cell? ⟨gb550, 4, none⟩ = some (.int .i64 t549) := (blk_cell BK550.out 4).trans rfl
        have hfz40_0 := blk_frozen BK550.out 0
        have hfz40_1 := blk_frozen BK550.out 1
        have hfz40_2 := blk_frozen BK550.out 2
        have hfz40_3 := blk_frozen BK550.out 3
        have hfz40_4 := blk_frozen BK550.out 4
        obtain ⟨Ao41, co41, eo41⟩ := Kd.R_slice HO_5.out
        subst eo41
        go_wp2_with (first | ((with_reducible refine gate_callee (f := 24) rfl ?_); refine goesL_ (some 92) rfl rfl Try.func24 (by kernel_rfl) rfl #[.slice Ao41 t551.length co41, .int .i64 t545, .int .i64 t546] rfl (bc_) ?_; (with_reducible refine (impl_LotsOf.calls _ _ t551 t545 t546 t564 _ ?side1 ?side2 A39.out).mono ?_); (case side1 => repeat (first | exact (Kd.R_reads' HO_5.out).2.2 | (with_reducible refine Kd.C_alloc ?_ _) | (with_reducible refine Kd.C_drewN ?_ _) | (with_reducible refine Kd.C_drew ?_))); (case side2 => exact (Kd.R_reads' HO_5.out).2.1); rintro e w42 ⟨v565, rfl, ho0, hb⟩; refine ⟨_, rfl, ?_⟩; have n0_ := Aside0.mk (Kd.R_elder' (pe_ HO_5.out) (Kd.R_base ho0) hb); have n1_ := Aside0.mk (Kd.R_lower (Kd.R_newB (Kd.R_new' ho0 (Kd.R_lt (pe_ HO_5.out))) (g := gb550) (o := .cells #[.int .i64 t545, .int .i64 t546, .int .i64 t547, .int .i64 t548, .int .i64 t549] 37 (0, 0)) (pb_ BK550.out)) (below_size (bg_ GE550.out))); have n2_ := Aside0.mk (blk_below (g := gb550) (o := .cells #[.int .i64 t545, .int .i64 t546, .int .i64 t547, .int .i64 t548, .int .i64 t549] 37 (0, 0)) (pb_ BK550.out) hb); have n3_ := Aside0.mk (below_step (bg_ GE550.out) hb); clear HO_5; clear BK550; clear HB; have HO_5 := n0_; have HO566 := n1_; have BK550 := n2_; have HB := n3_; clear n0_ n1_ n2_ n3_; (try clear hb); (try clear hb2); (try clear hk); (try clear hi); (try clear ho0)))
        go_loopg [10, 11, 12] kj17 (fun kq v10 v11 v12 w' => ∃ (x10_2 : Int) (x11_2 : Int) (x12_2 : Int), v10 = .int .i64 x10_2 ∧ v11 = .int .i64 x11_2 ∧ v12 = .int .i64 x12_2 ∧ Aside0 (laws_FnOpened.l0 kq t564 x10_2 x11_2 x12_2 t545 t546 t547 t548 t549 = some r) ∧ Aside0 (kq ≤ kj17) ∧ Aside0 (Kd.R k37 37 w' w.heap.size (fun k_ => k_ ≠ gb550) v565 t564) ∧ Aside0 (w'.heap[gb550]? = some (.cells #[.int .i64 t545, .int .i64 t546, .int .i64 t547, .int .i64 t548, .int .i64 t549] 37 (0, 0))) ∧ Aside0 (Below w.heap.size w w'))
        case atStart => exact ⟨((-1)), ((-1)), (0), (by first | rfl | (simp; done) | (simp [*]; done)), (by first | rfl | (simp; done) | (simp [*]; done)), (by first | rfl | (simp; done) | (simp [*]; done)), H', ⟨Nat.le_refl _⟩, ⟨by (with_reducible repeat (first | apply Kd.R_alloc | apply Kd.R_drewN | apply Kd.R_drew)); exact Kd.R_mono HO566.out (fun _ hk => hk.2)⟩, ⟨by (with_reducible repeat (first | refine blk_drewN ?_ _ | refine blk_drew ?_ | refine blk_alloc ?_ _)); exact BK550.out⟩, ⟨bg_ GE550.out⟩⟩
        case round =>
         clear H'
         try clear c1
         try clear c2
         try clear p2
         try clear c3
         try clear p6
         try clear c7
         try clear c7b0
         try clear c7b1
         try clear c8
         try clear c8b0
         try clear c8b1
         try clear c17
         try clear c17b0
         try clear c17b1
         try clear c19
         try clear c20
         try clear c21
         try clear c22
         try clear c24
         try clear c27
         try clear c28
         try clear c28b0
         try clear c28b1
         try clear c29
         try clear c30
         try clear c31
         try clear c31b0
         try clear c31b1
         try clear c38
         try clear hcz11_0
         try clear hcz11_1
         try clear hcz11_2
         try clear hcz11_3
         try clear hcz11_4
         try clear hcz14_0
         try clear hcz14_1
         try clear hcz14_2
         try clear hcz14_3
         try clear hcz14_4
         try clear hcz21_0
         try clear hcz21_1
         try clear hcz21_2
         try clear hcz21_3
         try clear hcz21_4
         try clear hcz24_0
         try clear hcz24_1
         try clear hcz24_2
         try clear hcz24_3
         try clear hcz24_4
         try clear hcz40_0
         try clear hcz40_1
         try clear hcz40_2
         try clear hcz40_3
         try clear hcz40_4
         try clear hfz11_0
         try clear hfz11_1
         try clear hfz11_2
         try clear hfz11_3
         try clear hfz11_4
         try clear hfz14_0
         try clear hfz14_1
         try clear hfz14_2
         try clear hfz14_3
         try clear hfz14_4
         try clear hfz21_0
         try clear hfz21_1
         try clear hfz21_2
         try clear hfz21_3
         try clear hfz21_4
         try clear hfz24_0
         try clear hfz24_1
         try clear hfz24_2
         try clear hfz24_3
         try clear hfz24_4
         try clear hfz40_0
         try clear hfz40_1
         try clear hfz40_2
         try clear hfz40_3
         try clear hfz40_4
         try clear p2
         try clear p6
         obtain ⟨x10_2, x11_2, x12_2, rfl, rfl, rfl, HA, HK2, HO_9, BK550, HB⟩ := hrel
         cases gk with
         | zero => exact absurd HA.out (by simp [laws_FnOpened.l0])
         | succ k2 =>
          have H := HA.out
          clear HA
          simp only [laws_FnOpened.l0] at H
          by_cases c43 : x12_2 < (t564.length : Int)
          ·
           rw [if_pos c43] at H
           have c43b0 : decide (x12_2 < (t564.length : Int)) = true := decide_eq_true c43
           clear c43
           by_cases c44 : 0 ≤ x12_2
           ·
            rw [if_pos c44] at H
            have c44b0 : decide (0 ≤ x12_2) = true := decide_eq_true c44
            clear c44
            by_cases c45 : (((rd_T37 t564 x12_2).f0) == t545 && (((rd_T37 t564 x12_2).f1) == t546 && (((rd_T37 t564 x12_2).f2) == t547 && (((rd_T37 t564 x12_2).f3) == t548 && (((rd_T37 t564 x12_2).f4) == t549))))) = true
            ·
             rw [if_pos c45] at H
             have c45b0 : (((rd_T37 t564 x12_2).f0) == t545 && (((rd_T37 t564 x12_2).f1) == t546 && (((rd_T37 t564 x12_2).f2) == t547 && (((rd_T37 t564 x12_2).f3) == t548 && (((rd_T37 t564 x12_2).f4) == t549))))) = true := c45
             (try (have c45b1 : decide (((rd_T37 t564 x12_2).f0) = t545 && (((rd_T37 t564 x12_2).f1) == t546 && (((rd_T37 t564 x12_2).f2) == t547 && (((rd_T37 t564 x12_2).f3) == t548 && (((rd_T37 t564 x12_2).f4) == t549))))) = true := by simpa using c45))
             (try (have c45b2 : (((rd_T37 t564 x12_2).f0) == t545 && (((rd_T37 t564 x12_2).f1) == t546 && (((rd_T37 t564 x12_2).f2) == t547 && (((rd_T37 t564 x12_2).f3) == t548 && (((rd_T37 t564 x12_2).f4) == t549))))) = true := by simpa using c45))
             clear c45
             by_cases c46 : ((rd_T37 t564 x12_2).f2) > t547
             ·
              rw [if_pos c46] at H
              have c46b0 : decide (t547 < ((rd_T37 t564 x12_2).f2)) = true := decide_eq_true c46
              clear c46
              by_cases c47 : x11_2 < 0
              ·
               rw [if_pos c47] at H
               have c47b0 : decide (x11_2 < 0) = true := decide_eq_true c47
               clear c47
               have H' := Aside0.mk H
               clear H
               obtain ⟨Ao48, co48, eo48⟩ := Kd.R_slice HO_9.out
               subst eo48
               try go_wp2
               have n0_ := Aside0.mk (Kd.R_drew HO_9.out)
               have n1_ := Aside0.mk (blk_drew BK550.out)
               have n2_ := Aside0.mk (below_drew1 HB.out)
               clear HO_9
               clear BK550
               clear HB
               have HO_9 := n0_
               have BK550 := n1_
               have HB := n2_
               clear n0_ n1_ n2_
               have p567 : 0 ≤ (x12_2 : Int) := of_decide_eq_true (by first | (with_reducible assumption) | assumption)
               have q567 : x12_2 < (t564.length : Int) := of_decide_eq_true (by first | (with_reducible assumption) | assumption)
               obtain ⟨ad567, e567, hx567_0, hx567_1, hx567_2, hx567_3, hx567_4⟩ := at_T37 (Kd.R_reads' HO_9.out).2.2 x12_2 p567 q567
               cases e567
               replace p567 := eq_true p567
               replace q567 := eq_true q567
               refine start_ (n := 6) (S := fun w' => w'.cell? ⟨gb550, 0, none⟩ = some (.int .i64 t545) ∧ w'.cell? ⟨gb550, 1, none⟩ = some (.int .i64 t546) ∧ w'.cell? ⟨gb550, 2, none⟩ = some (.int .i64 t547) ∧ w'.cell? ⟨gb550, 3, none⟩ = some (.int .i64 t548) ∧ w'.cell? ⟨gb550, 4, none⟩ = some (.int .i64 t549) ∧ w'.cell? (ad567.add ((x12_2).toNat * 5)) = some (.int .i64 ((rd_T37 t564 x12_2).f0)) ∧ w'.cell? ⟨(ad567.add ((x12_2).toNat * 5)).block, (ad567.add ((x12_2).toNat * 5)).off + 1, none⟩ = some (.int .i64 ((rd_T37 t564 x12_2).f1)) ∧ w'.cell? ⟨(ad567.add ((x12_2).toNat * 5)).block, (ad567.add ((x12_2).toNat * 5)).off + 2, none⟩ = some (.int .i64 ((rd_T37 t564 x12_2).f2)) ∧ w'.cell? ⟨(ad567.add ((x12_2).toNat * 5)).block, (ad567.add ((x12_2).toNat * 5)).off + 3, none⟩ = some (.int .i64 ((rd_T37 t564 x12_2).f3)) ∧ w'.cell? ⟨(ad567.add ((x12_2).toNat * 5)).block, (ad567.add ((x12_2).toNat * 5)).off + 4, none⟩ = some (.int .i64 ((rd_T37 t564 x12_2).f4))) (ds := []) #[false, false, false, false, false, false] (by kernel_rfl) rfl rfl ⟨(blk_cell BK550.out 0).trans rfl, (blk_cell BK550.out 1).trans rfl, (blk_cell BK550.out 2).trans rfl, (blk_cell BK550.out 3).trans rfl, (blk_cell BK550.out 4).trans rfl, hx567_0, hx567_1, hx567_2, hx567_3, hx567_4⟩ (fun hHeld => ?_)
               generalize wr.drew = w49 at HO_9 BK550 HB hx567_0 hx567_1 hx567_2 hx567_3 hx567_4 hHeld ⊢
               refine pure_ (i := 0) (N := some 99) (v := ?_) (a' := ?_) #[true, false, false, false, false, false] rfl rfl (by kernel_rfl) (fun _ _ _ h => h) (Or.inl ⟨by rfl, ?_⟩) ?_ ?_
               rotate_left
               ·
                intro w'
                go_simp
                with_reducible rfl
               rotate_left
               ·
                simp only [Act.put, List.setIfInBounds_toArray, List.set_cons_zero, List.set_cons_succ, i64_w, i32_w]
                rfl
               refine pure_ (i := 1) (N := some 100) (v := ?_) (a' := ?_) #[true, true, false, false, false, false] rfl rfl (by kernel_rfl) (fun _ _ _ h => h) (Or.inl ⟨by rfl, ?_⟩) ?_ ?_
               rotate_left
               ·
                intro w'
                go_simp
                with_reducible rfl
               rotate_left
               ·
                simp only [Act.put, List.setIfInBounds_toArray, List.set_cons_zero, List.set_cons_succ, i64_w, i32_w]
                rfl
               refine pure_ (i := 2) (N := some 101) (v := ?_) (a' := ?_) #[true, true, true, false, false, false] rfl rfl (by kernel_rfl) (fun _ _ _ h => h) (Or.inl ⟨by rfl, ?_⟩) ?_ ?_
               rotate_left
               ·
                intro w'
                go_simp
                with_reducible rfl
               rotate_left
               ·
                simp only [Act.put, List.setIfInBounds_toArray, List.set_cons_zero, List.set_cons_succ, i64_w, i32_w]
                rfl
               refine take_ (i := 3) (N := some 102) (v := ?_) (a' := ?_) #[true, true, true, true, false, false] rfl rfl (by kernel_rfl) (fun _ _ _ h => h) (Or.inl ⟨by rfl, ?_⟩) hHeld ?_ ?_
               rotate_left
               ·
                rintro w' ⟨s0, s1, s2, s3, s4, s5, s6, s7, s8, s9⟩
                go_simp
                with_reducible rfl
               rotate_left
               ·
                simp only [Act.put, List.setIfInBounds_toArray, List.set_cons_zero, List.set_cons_succ, i64_w, i32_w]
                rfl
               refine take_ (i := 4) (N := some 103) (v := ?_) (a' := ?_) #[true, true, true, true, true, false] rfl rfl (by kernel_rfl) (fun _ _ _ h => h) (Or.inl ⟨by rfl, ?_⟩) hHeld ?_ ?_
               rotate_left
               ·
                rintro w' ⟨s0, s1, s2, s3, s4, s5, s6, s7, s8, s9⟩
                go_simp
                with_reducible rfl
               rotate_left
               ·
                simp only [Act.put, List.setIfInBounds_toArray, List.set_cons_zero, List.set_cons_succ, i64_w, i32_w]
                rfl
               refine pure_ (i := 5) (N := some 104) (v := ?_) (a' := ?_) #[true, true, true, true, true, true] rfl rfl (by kernel_rfl) (fun _ _ _ h => h) (Or.inl ⟨by rfl, ?_⟩) ?_ ?_
               rotate_left
               ·
                intro w'
                go_simp
                with_reducible rfl
               rotate_left
               ·
                simp only [Act.put, List.setIfInBounds_toArray, List.set_cons_zero, List.set_cons_succ, i64_w, i32_w]
                rfl
               refine done_ (by kernel_rfl) ?_
               try go_wp2
               have n0_ := Aside0.mk (Kd.R_drew HO_9.out)
               have n1_ := Aside0.mk (blk_drew BK550.out)
               have n2_ := Aside0.mk (below_drew1 HB.out)
               clear HO_9
               clear BK550
               clear HB
               have HO_9 := n0_
               have BK550 := n1_
               have HB := n2_
               clear n0_ n1_ n2_
               have p568 : 0 ≤ (x12_2 : Int) := of_decide_eq_true (by first | (with_reducible assumption) | assumption)
               have q568 : x12_2 < (t564.length : Int) := of_decide_eq_true (by first | (with_reducible assumption) | assumption)
               obtain ⟨ad568, e568, hx568_0, hx568_1, hx568_2, hx568_3, hx568_4⟩ := at_T37 (Kd.R_reads' HO_9.out).2.2 x12_2 p568 q568
               obtain rfl : ad567 = ad568 := (by injection e568)
               replace p568 := eq_true p568
               replace q568 := eq_true q568
               refine start_ (n := 12) (S := fun w' => w'.cell? ⟨gb550, 0, none⟩ = some (.int .i64 t545) ∧ w'.cell? ⟨gb550, 1, none⟩ = some (.int .i64 t546) ∧ w'.cell? ⟨gb550, 2, none⟩ = some (.int .i64 t547) ∧ w'.cell? ⟨gb550, 3, none⟩ = some (.int .i64 t548) ∧ w'.cell? ⟨gb550, 4, none⟩ = some (.int .i64 t549) ∧ w'.cell? (ad567.add ((x12_2).toNat * 5)) = some (.int .i64 ((rd_T37 t564 x12_2).f0)) ∧ w'.cell? ⟨(ad567.add ((x12_2).toNat * 5)).block, (ad567.add ((x12_2).toNat * 5)).off + 1, none⟩ = some (.int .i64 ((rd_T37 t564 x12_2).f1)) ∧ w'.cell? ⟨(ad567.add ((x12_2).toNat * 5)).block, (ad567.add ((x12_2).toNat * 5)).off + 2, none⟩ = some (.int .i64 ((rd_T37 t564 x12_2).f2)) ∧ w'.cell? ⟨(ad567.add ((x12_2).toNat * 5)).block, (ad567.add ((x12_2).toNat * 5)).off + 3, none⟩ = some (.int .i64 ((rd_T37 t564 x12_2).f3)) ∧ w'.cell? ⟨(ad567.add ((x12_2).toNat * 5)).block, (ad567.add ((x12_2).toNat * 5)).off + 4, none⟩ = some (.int .i64 ((rd_T37 t564 x12_2).f4))) (ds := []) #[false, false, false, false, false, false, false, false, false, false, false, false] (by kernel_rfl) rfl rfl ⟨(blk_cell BK550.out 0).trans rfl, (blk_cell BK550.out 1).trans rfl, (blk_cell BK550.out 2).trans rfl, (blk_cell BK550.out 3).trans rfl, (blk_cell BK550.out 4).trans rfl, hx568_0, hx568_1, hx568_2, hx568_3, hx568_4⟩ (fun hHeld => ?_); refine with_tabW laws_FnOpened.tab21 laws_FnOpened.bits21 (fun HT_ HW_ => ?_)
               generalize w49.drew = w50 at HO_9 BK550 HB hx568_0 hx568_1 hx568_2 hx568_3 hx568_4 hHeld ⊢
               refine pure_ (i := 0) (N := some 106) (v := ?_) (a' := ?_) #[true, false, false, false, false, false, false, false, false, false, false, false] rfl rfl (any_of HT_.out (by kernel_rfl)) (fun _ _ _ h => h) (Or.inl ⟨by rfl, ?_⟩) ?_ ?_
               rotate_left
               ·
                intro w'
                go_simp
                with_reducible rfl
               rotate_left
               ·
                simp only [Act.put, List.setIfInBounds_toArray, List.set_cons_zero, List.set_cons_succ, i64_w, i32_w]
                rfl
               refine pure_ (i := 1) (N := some 107) (v := ?_) (a' := ?_) #[true, true, false, false, false, false, false, false, false, false, false, false] rfl rfl (any_of HT_.out (by kernel_rfl)) (fun _ _ _ h => h) (Or.inl ⟨by rfl, ?_⟩) ?_ ?_
               rotate_left
               ·
                intro w'
                go_simp
                with_reducible rfl
               rotate_left
               ·
                simp only [Act.put, List.setIfInBounds_toArray, List.set_cons_zero, List.set_cons_succ, i64_w, i32_w]
                rfl
               refine pure_ (i := 2) (N := some 108) (v := ?_) (a' := ?_) #[true, true, true, false, false, false, false, false, false, false, false, false] rfl rfl (any_of HT_.out (by kernel_rfl)) (fun _ _ _ h => h) (Or.inl ⟨by rfl, ?_⟩) ?_ ?_
               rotate_left
               ·
                intro w'
                go_simp
                with_reducible rfl
               rotate_left
               ·
                simp only [Act.put, List.setIfInBounds_toArray, List.set_cons_zero, List.set_cons_succ, i64_w, i32_w]
                rfl
               refine pure_ (i := 3) (N := some 109) (v := ?_) (a' := ?_) #[true, true, true, true, false, false, false, false, false, false, false, false] rfl rfl (any_of HT_.out (by kernel_rfl)) (fun _ _ _ h => h) (Or.inl ⟨by rfl, ?_⟩) ?_ ?_
               rotate_left
               ·
                intro w'
                go_simp
                with_reducible rfl
               rotate_left
               ·
                simp only [Act.put, List.setIfInBounds_toArray, List.set_cons_zero, List.set_cons_succ, i64_w, i32_w]
                rfl
               refine pure_ (i := 5) (N := some 111) (v := ?_) (a' := ?_) #[true, true, true, true, false, true, false, false, false, false, false, false] rfl rfl (any_of HT_.out (by kernel_rfl)) (fun _ _ _ h => h) (Or.inl ⟨by rfl, ?_⟩) ?_ ?_
               rotate_left
               ·
                intro w'
                go_simp
                with_reducible rfl
               rotate_left
               ·
                simp only [Act.put, List.setIfInBounds_toArray, List.set_cons_zero, List.set_cons_succ, i64_w, i32_w]
                rfl
               refine take_ (i := 4) (N := some 110) (v := ?_) (a' := ?_) #[true, true, true, true, true, true, false, false, false, false, false, false] rfl rfl (take_ofW HT_.out HW_.out (by kernel_rfl)) (fun _ _ _ h => h) (Or.inl ⟨by rfl, ?_⟩) hHeld ?_ ?_
               rotate_left
               ·
                rintro w' ⟨s0, s1, s2, s3, s4, s5, s6, s7, s8, s9⟩
                go_simp
                with_reducible rfl
               rotate_left
               ·
                simp only [Act.put, List.setIfInBounds_toArray, List.set_cons_zero, List.set_cons_succ, i64_w, i32_w]
                rfl
               refine take_ (i := 6) (N := some 112) (v := ?_) (a' := ?_) #[true, true, true, true, true, true, true, false, false, false, false, false] rfl rfl (take_ofW HT_.out HW_.out (by kernel_rfl)) (fun _ _ _ h => h) (Or.inl ⟨by rfl, ?_⟩) hHeld ?_ ?_
               rotate_left
               ·
                rintro w' ⟨s0, s1, s2, s3, s4, s5, s6, s7, s8, s9⟩
                go_simp
                with_reducible rfl
               rotate_left
               ·
                simp only [Act.put, List.setIfInBounds_toArray, List.set_cons_zero, List.set_cons_succ, i64_w, i32_w]
                rfl
               refine pure_ (i := 7) (N := some 113) (v := ?_) (a' := ?_) #[true, true, true, true, true, true, true, true, false, false, false, false] rfl rfl (any_of HT_.out (by kernel_rfl)) (fun _ _ _ h => h) (Or.inl ⟨by rfl, ?_⟩) ?_ ?_
               rotate_left
               ·
                intro w'
                go_simp
                with_reducible rfl
               rotate_left
               ·
                simp only [Act.put, List.setIfInBounds_toArray, List.set_cons_zero, List.set_cons_succ, i64_w, i32_w]
                rfl
               refine pure_ (i := 8) (N := some 114) (v := ?_) (a' := ?_) #[true, true, true, true, true, true, true, true, true, false, false, false] rfl rfl (any_of HT_.out (by kernel_rfl)) (fun _ _ _ h => h) (Or.inl ⟨by rfl, ?_⟩) ?_ ?_
               rotate_left
               ·
                intro w'
                go_simp
                with_reducible rfl
               rotate_left
               ·
                simp only [Act.put, List.setIfInBounds_toArray, List.set_cons_zero, List.set_cons_succ, i64_w, i32_w]
                rfl
               refine pure_ (i := 9) (N := some 115) (v := ?_) (a' := ?_) #[true, true, true, true, true, true, true, true, true, true, false, false] rfl rfl (any_of HT_.out (by kernel_rfl)) (fun _ _ _ h => h) (Or.inl ⟨by rfl, ?_⟩) ?_ ?_
               rotate_left
               ·
                intro w'
                go_simp
                with_reducible rfl
               rotate_left
               ·
                simp only [Act.put, List.setIfInBounds_toArray, List.set_cons_zero, List.set_cons_succ, i64_w, i32_w]
                rfl
               refine pure_ (i := 10) (N := some 116) (v := ?_) (a' := ?_) #[true, true, true, true, true, true, true, true, true, true, true, false] rfl rfl (any_of HT_.out (by kernel_rfl)) (fun _ _ _ h => h) (Or.inl ⟨by rfl, ?_⟩) ?_ ?_
               rotate_left
               ·
                intro w'
                go_simp
                with_reducible rfl
               rotate_left
               ·
                simp only [Act.put, List.setIfInBounds_toArray, List.set_cons_zero, List.set_cons_succ, i64_w, i32_w]
                rfl
               refine pure_ (i := 11) (N := some 117) (v := ?_) (a' := ?_) #[true, true, true, true, true, true, true, true, true, true, true, true] rfl rfl (any_of HT_.out (by kernel_rfl)) (fun _ _ _ h => h) (Or.inl ⟨by rfl, ?_⟩) ?_ ?_
               rotate_left
               ·
                intro w'
                go_simp
                with_reducible rfl
               rotate_left
               ·
                simp only [Act.put, List.setIfInBounds_toArray, List.set_cons_zero, List.set_cons_succ, i64_w, i32_w]
                rfl
               refine done_ (done_of HT_.out (by kernel_rfl)) ?_
               try go_wp2
               go_roundg k2
               case measure => have := HJ17.out; have := HK2.out; omega
               case rel => exact ⟨(x12_2), (x12_2), (wrap64 (x12_2 + 1)), (by first | rfl | (simp; done) | (simp [*]; done)), (by first | rfl | (simp; done) | (simp [*]; done)), (by first | rfl | (simp; done) | (simp [*]; done)), H', ⟨by have := HJ17.out; have := HK2.out; omega⟩, ⟨by (with_reducible repeat (first | apply Kd.R_alloc | apply Kd.R_drewN | apply Kd.R_drew)); exact HO_9.out⟩, ⟨by (with_reducible repeat (first | refine blk_drewN ?_ _ | refine blk_drew ?_ | refine blk_alloc ?_ _)); exact BK550.out⟩, ⟨bg_ GE550.out⟩⟩
              ·
               rw [if_neg c47] at H
               have c47b0 : decide (x11_2 < 0) = false := decide_eq_false c47
               clear c47
               have H' := Aside0.mk H
               clear H
               obtain ⟨Ao51, co51, eo51⟩ := Kd.R_slice HO_9.out
               subst eo51
               try go_wp2
               have n0_ := Aside0.mk (Kd.R_drew HO_9.out)
               have n1_ := Aside0.mk (blk_drew BK550.out)
               have n2_ := Aside0.mk (below_drew1 HB.out)
               clear HO_9
               clear BK550
               clear HB
               have HO_9 := n0_
               have BK550 := n1_
               have HB := n2_
               clear n0_ n1_ n2_
               have p567 : 0 ≤ (x12_2 : Int) := of_decide_eq_true (by first | (with_reducible assumption) | assumption)
               have q567 : x12_2 < (t564.length : Int) := of_decide_eq_true (by first | (with_reducible assumption) | assumption)
               obtain ⟨ad567, e567, hx567_0, hx567_1, hx567_2, hx567_3, hx567_4⟩ := at_T37 (Kd.R_reads' HO_9.out).2.2 x12_2 p567 q567
               cases e567
               replace p567 := eq_true p567
               replace q567 := eq_true q567
               refine start_ (n := 6) (S := fun w' => w'.cell? ⟨gb550, 0, none⟩ = some (.int .i64 t545) ∧ w'.cell? ⟨gb550, 1, none⟩ = some (.int .i64 t546) ∧ w'.cell? ⟨gb550, 2, none⟩ = some (.int .i64 t547) ∧ w'.cell? ⟨gb550, 3, none⟩ = some (.int .i64 t548) ∧ w'.cell? ⟨gb550, 4, none⟩ = some (.int .i64 t549) ∧ w'.cell? (ad567.add ((x12_2).toNat * 5)) = some (.int .i64 ((rd_T37 t564 x12_2).f0)) ∧ w'.cell? ⟨(ad567.add ((x12_2).toNat * 5)).block, (ad567.add ((x12_2).toNat * 5)).off + 1, none⟩ = some (.int .i64 ((rd_T37 t564 x12_2).f1)) ∧ w'.cell? ⟨(ad567.add ((x12_2).toNat * 5)).block, (ad567.add ((x12_2).toNat * 5)).off + 2, none⟩ = some (.int .i64 ((rd_T37 t564 x12_2).f2)) ∧ w'.cell? ⟨(ad567.add ((x12_2).toNat * 5)).block, (ad567.add ((x12_2).toNat * 5)).off + 3, none⟩ = some (.int .i64 ((rd_T37 t564 x12_2).f3)) ∧ w'.cell? ⟨(ad567.add ((x12_2).toNat * 5)).block, (ad567.add ((x12_2).toNat * 5)).off + 4, none⟩ = some (.int .i64 ((rd_T37 t564 x12_2).f4))) (ds := []) #[false, false, false, false, false, false] (by kernel_rfl) rfl rfl ⟨(blk_cell BK550.out 0).trans rfl, (blk_cell BK550.out 1).trans rfl, (blk_cell BK550.out 2).trans rfl, (blk_cell BK550.out 3).trans rfl, (blk_cell BK550.out 4).trans rfl, hx567_0, hx567_1, hx567_2, hx567_3, hx567_4⟩ (fun hHeld => ?_)
               generalize wr.drew = w52 at HO_9 BK550 HB hx567_0 hx567_1 hx567_2 hx567_3 hx567_4 hHeld ⊢
               refine pure_ (i := 0) (N := some 99) (v := ?_) (a' := ?_) #[true, false, false, false, false, false] rfl rfl (by kernel_rfl) (fun _ _ _ h => h) (Or.inl ⟨by rfl, ?_⟩) ?_ ?_
               rotate_left
               ·
                intro w'
                go_simp
                with_reducible rfl
               rotate_left
               ·
                simp only [Act.put, List.setIfInBounds_toArray, List.set_cons_zero, List.set_cons_succ, i64_w, i32_w]
                rfl
               refine pure_ (i := 1) (N := some 100) (v := ?_) (a' := ?_) #[true, true, false, false, false, false] rfl rfl (by kernel_rfl) (fun _ _ _ h => h) (Or.inl ⟨by rfl, ?_⟩) ?_ ?_
               rotate_left
               ·
                intro w'
                go_simp
                with_reducible rfl
               rotate_left
               ·
                simp only [Act.put, List.setIfInBounds_toArray, List.set_cons_zero, List.set_cons_succ, i64_w, i32_w]
                rfl
               refine pure_ (i := 2) (N := some 101) (v := ?_) (a' := ?_) #[true, true, true, false, false, false] rfl rfl (by kernel_rfl) (fun _ _ _ h => h) (Or.inl ⟨by rfl, ?_⟩) ?_ ?_
               rotate_left
               ·
                intro w'
                go_simp
                with_reducible rfl
               rotate_left
               ·
                simp only [Act.put, List.setIfInBounds_toArray, List.set_cons_zero, List.set_cons_succ, i64_w, i32_w]
                rfl
               refine take_ (i := 3) (N := some 102) (v := ?_) (a' := ?_) #[true, true, true, true, false, false] rfl rfl (by kernel_rfl) (fun _ _ _ h => h) (Or.inl ⟨by rfl, ?_⟩) hHeld ?_ ?_
               rotate_left
               ·
                rintro w' ⟨s0, s1, s2, s3, s4, s5, s6, s7, s8, s9⟩
                go_simp
                with_reducible rfl
               rotate_left
               ·
                simp only [Act.put, List.setIfInBounds_toArray, List.set_cons_zero, List.set_cons_succ, i64_w, i32_w]
                rfl
               refine take_ (i := 4) (N := some 103) (v := ?_) (a' := ?_) #[true, true, true, true, true, false] rfl rfl (by kernel_rfl) (fun _ _ _ h => h) (Or.inl ⟨by rfl, ?_⟩) hHeld ?_ ?_
               rotate_left
               ·
                rintro w' ⟨s0, s1, s2, s3, s4, s5, s6, s7, s8, s9⟩
                go_simp
                with_reducible rfl
               rotate_left
               ·
                simp only [Act.put, List.setIfInBounds_toArray, List.set_cons_zero, List.set_cons_succ, i64_w, i32_w]
                rfl
               refine pure_ (i := 5) (N := some 104) (v := ?_) (a' := ?_) #[true, true, true, true, true, true] rfl rfl (by kernel_rfl) (fun _ _ _ h => h) (Or.inl ⟨by rfl, ?_⟩) ?_ ?_
               rotate_left
               ·
                intro w'
                go_simp
                with_reducible rfl
               rotate_left
               ·
                simp only [Act.put, List.setIfInBounds_toArray, List.set_cons_zero, List.set_cons_succ, i64_w, i32_w]
                rfl
               refine done_ (by kernel_rfl) ?_
               try go_wp2
               have n0_ := Aside0.mk (Kd.R_drew HO_9.out)
               have n1_ := Aside0.mk (blk_drew BK550.out)
               have n2_ := Aside0.mk (below_drew1 HB.out)
               clear HO_9
               clear BK550
               clear HB
               have HO_9 := n0_
               have BK550 := n1_
               have HB := n2_
               clear n0_ n1_ n2_
               have p568 : 0 ≤ (x12_2 : Int) := of_decide_eq_true (by first | (with_reducible assumption) | assumption)
               have q568 : x12_2 < (t564.length : Int) := of_decide_eq_true (by first | (with_reducible assumption) | assumption)
               obtain ⟨ad568, e568, hx568_0, hx568_1, hx568_2, hx568_3, hx568_4⟩ := at_T37 (Kd.R_reads' HO_9.out).2.2 x12_2 p568 q568
               obtain rfl : ad567 = ad568 := (by injection e568)
               replace p568 := eq_true p568
               replace q568 := eq_true q568
               refine start_ (n := 12) (S := fun w' => w'.cell? ⟨gb550, 0, none⟩ = some (.int .i64 t545) ∧ w'.cell? ⟨gb550, 1, none⟩ = some (.int .i64 t546) ∧ w'.cell? ⟨gb550, 2, none⟩ = some (.int .i64 t547) ∧ w'.cell? ⟨gb550, 3, none⟩ = some (.int .i64 t548) ∧ w'.cell? ⟨gb550, 4, none⟩ = some (.int .i64 t549) ∧ w'.cell? (ad567.add ((x12_2).toNat * 5)) = some (.int .i64 ((rd_T37 t564 x12_2).f0)) ∧ w'.cell? ⟨(ad567.add ((x12_2).toNat * 5)).block, (ad567.add ((x12_2).toNat * 5)).off + 1, none⟩ = some (.int .i64 ((rd_T37 t564 x12_2).f1)) ∧ w'.cell? ⟨(ad567.add ((x12_2).toNat * 5)).block, (ad567.add ((x12_2).toNat * 5)).off + 2, none⟩ = some (.int .i64 ((rd_T37 t564 x12_2).f2)) ∧ w'.cell? ⟨(ad567.add ((x12_2).toNat * 5)).block, (ad567.add ((x12_2).toNat * 5)).off + 3, none⟩ = some (.int .i64 ((rd_T37 t564 x12_2).f3)) ∧ w'.cell? ⟨(ad567.add ((x12_2).toNat * 5)).block, (ad567.add ((x12_2).toNat * 5)).off + 4, none⟩ = some (.int .i64 ((rd_T37 t564 x12_2).f4))) (ds := []) #[false, false, false, false, false, false, false, false, false, false, false, false] (by kernel_rfl) rfl rfl ⟨(blk_cell BK550.out 0).trans rfl, (blk_cell BK550.out 1).trans rfl, (blk_cell BK550.out 2).trans rfl, (blk_cell BK550.out 3).trans rfl, (blk_cell BK550.out 4).trans rfl, hx568_0, hx568_1, hx568_2, hx568_3, hx568_4⟩ (fun hHeld => ?_); refine with_tabW laws_FnOpened.tab21 laws_FnOpened.bits21 (fun HT_ HW_ => ?_)
               generalize w52.drew = w53 at HO_9 BK550 HB hx568_0 hx568_1 hx568_2 hx568_3 hx568_4 hHeld ⊢
               refine pure_ (i := 0) (N := some 106) (v := ?_) (a' := ?_) #[true, false, false, false, false, false, false, false, false, false, false, false] rfl rfl (any_of HT_.out (by kernel_rfl)) (fun _ _ _ h => h) (Or.inl ⟨by rfl, ?_⟩) ?_ ?_
               rotate_left
               ·
                intro w'
                go_simp
                with_reducible rfl
               rotate_left
               ·
                simp only [Act.put, List.setIfInBounds_toArray, List.set_cons_zero, List.set_cons_succ, i64_w, i32_w]
                rfl
               refine pure_ (i := 1) (N := some 107) (v := ?_) (a' := ?_) #[true, true, false, false, false, false, false, false, false, false, false, false] rfl rfl (any_of HT_.out (by kernel_rfl)) (fun _ _ _ h => h) (Or.inl ⟨by rfl, ?_⟩) ?_ ?_
               rotate_left
               ·
                intro w'
                go_simp
                with_reducible rfl
               rotate_left
               ·
                simp only [Act.put, List.setIfInBounds_toArray, List.set_cons_zero, List.set_cons_succ, i64_w, i32_w]
                rfl
               refine pure_ (i := 2) (N := some 108) (v := ?_) (a' := ?_) #[true, true, true, false, false, false, false, false, false, false, false, false] rfl rfl (any_of HT_.out (by kernel_rfl)) (fun _ _ _ h => h) (Or.inl ⟨by rfl, ?_⟩) ?_ ?_
               rotate_left
               ·
                intro w'
                go_simp
                with_reducible rfl
               rotate_left
               ·
                simp only [Act.put, List.setIfInBounds_toArray, List.set_cons_zero, List.set_cons_succ, i64_w, i32_w]
                rfl
               refine pure_ (i := 3) (N := some 109) (v := ?_) (a' := ?_) #[true, true, true, true, false, false, false, false, false, false, false, false] rfl rfl (any_of HT_.out (by kernel_rfl)) (fun _ _ _ h => h) (Or.inl ⟨by rfl, ?_⟩) ?_ ?_
               rotate_left
               ·
                intro w'
                go_simp
                with_reducible rfl
               rotate_left
               ·
                simp only [Act.put, List.setIfInBounds_toArray, List.set_cons_zero, List.set_cons_succ, i64_w, i32_w]
                rfl
               refine pure_ (i := 5) (N := some 111) (v := ?_) (a' := ?_) #[true, true, true, true, false, true, false, false, false, false, false, false] rfl rfl (any_of HT_.out (by kernel_rfl)) (fun _ _ _ h => h) (Or.inl ⟨by rfl, ?_⟩) ?_ ?_
               rotate_left
               ·
                intro w'
                go_simp
                with_reducible rfl
               rotate_left
               ·
                simp only [Act.put, List.setIfInBounds_toArray, List.set_cons_zero, List.set_cons_succ, i64_w, i32_w]
                rfl
               refine take_ (i := 4) (N := some 110) (v := ?_) (a' := ?_) #[true, true, true, true, true, true, false, false, false, false, false, false] rfl rfl (take_ofW HT_.out HW_.out (by kernel_rfl)) (fun _ _ _ h => h) (Or.inl ⟨by rfl, ?_⟩) hHeld ?_ ?_
               rotate_left
               ·
                rintro w' ⟨s0, s1, s2, s3, s4, s5, s6, s7, s8, s9⟩
                go_simp
                with_reducible rfl
               rotate_left
               ·
                simp only [Act.put, List.setIfInBounds_toArray, List.set_cons_zero, List.set_cons_succ, i64_w, i32_w]
                rfl
               refine take_ (i := 6) (N := some 112) (v := ?_) (a' := ?_) #[true, true, true, true, true, true, true, false, false, false, false, false] rfl rfl (take_ofW HT_.out HW_.out (by kernel_rfl)) (fun _ _ _ h => h) (Or.inl ⟨by rfl, ?_⟩) hHeld ?_ ?_
               rotate_left
               ·
                rintro w' ⟨s0, s1, s2, s3, s4, s5, s6, s7, s8, s9⟩
                go_simp
                with_reducible rfl
               rotate_left
               ·
                simp only [Act.put, List.setIfInBounds_toArray, List.set_cons_zero, List.set_cons_succ, i64_w, i32_w]
                rfl
               refine pure_ (i := 7) (N := some 113) (v := ?_) (a' := ?_) #[true, true, true, true, true, true, true, true, false, false, false, false] rfl rfl (any_of HT_.out (by kernel_rfl)) (fun _ _ _ h => h) (Or.inl ⟨by rfl, ?_⟩) ?_ ?_
               rotate_left
               ·
                intro w'
                go_simp
                with_reducible rfl
               rotate_left
               ·
                simp only [Act.put, List.setIfInBounds_toArray, List.set_cons_zero, List.set_cons_succ, i64_w, i32_w]
                rfl
               refine pure_ (i := 8) (N := some 114) (v := ?_) (a' := ?_) #[true, true, true, true, true, true, true, true, true, false, false, false] rfl rfl (any_of HT_.out (by kernel_rfl)) (fun _ _ _ h => h) (Or.inl ⟨by rfl, ?_⟩) ?_ ?_
               rotate_left
               ·
                intro w'
                go_simp
                with_reducible rfl
               rotate_left
               ·
                simp only [Act.put, List.setIfInBounds_toArray, List.set_cons_zero, List.set_cons_succ, i64_w, i32_w]
                rfl
               refine pure_ (i := 9) (N := some 115) (v := ?_) (a' := ?_) #[true, true, true, true, true, true, true, true, true, true, false, false] rfl rfl (any_of HT_.out (by kernel_rfl)) (fun _ _ _ h => h) (Or.inl ⟨by rfl, ?_⟩) ?_ ?_
               rotate_left
               ·
                intro w'
                go_simp
                with_reducible rfl
               rotate_left
               ·
                simp only [Act.put, List.setIfInBounds_toArray, List.set_cons_zero, List.set_cons_succ, i64_w, i32_w]
                rfl
               refine pure_ (i := 10) (N := some 116) (v := ?_) (a' := ?_) #[true, true, true, true, true, true, true, true, true, true, true, false] rfl rfl (any_of HT_.out (by kernel_rfl)) (fun _ _ _ h => h) (Or.inl ⟨by rfl, ?_⟩) ?_ ?_
               rotate_left
               ·
                intro w'
                go_simp
                with_reducible rfl
               rotate_left
               ·
                simp only [Act.put, List.setIfInBounds_toArray, List.set_cons_zero, List.set_cons_succ, i64_w, i32_w]
                rfl
               refine pure_ (i := 11) (N := some 117) (v := ?_) (a' := ?_) #[true, true, true, true, true, true, true, true, true, true, true, true] rfl rfl (any_of HT_.out (by kernel_rfl)) (fun _ _ _ h => h) (Or.inl ⟨by rfl, ?_⟩) ?_ ?_
               rotate_left
               ·
                intro w'
                go_simp
                with_reducible rfl
               rotate_left
               ·
                simp only [Act.put, List.setIfInBounds_toArray, List.set_cons_zero, List.set_cons_succ, i64_w, i32_w]
                rfl
               refine done_ (done_of HT_.out (by kernel_rfl)) ?_
               try go_wp2
               go_roundg k2
               case measure => have := HJ17.out; have := HK2.out; omega
               case rel => exact ⟨(x12_2), (x11_2), (wrap64 (x12_2 + 1)), (by first | rfl | (simp; done) | (simp [*]; done)), (by first | rfl | (simp; done) | (simp [*]; done)), (by first | rfl | (simp; done) | (simp [*]; done)), H', ⟨by have := HJ17.out; have := HK2.out; omega⟩, ⟨by (with_reducible repeat (first | apply Kd.R_alloc | apply Kd.R_drewN | apply Kd.R_drew)); exact HO_9.out⟩, ⟨by (with_reducible repeat (first | refine blk_drewN ?_ _ | refine blk_drew ?_ | refine blk_alloc ?_ _)); exact BK550.out⟩, ⟨bg_ GE550.out⟩⟩
             ·
              rw [if_neg c46] at H
              have c46b0 : decide (t547 < ((rd_T37 t564 x12_2).f2)) = false := decide_eq_false c46
              clear c46
              have H' := Aside0.mk H
              clear H
              obtain ⟨Ao54, co54, eo54⟩ := Kd.R_slice HO_9.out
              subst eo54
              try go_wp2
              have n0_ := Aside0.mk (Kd.R_drew HO_9.out)
              have n1_ := Aside0.mk (blk_drew BK550.out)
              have n2_ := Aside0.mk (below_drew1 HB.out)
              clear HO_9
              clear BK550
              clear HB
              have HO_9 := n0_
              have BK550 := n1_
              have HB := n2_
              clear n0_ n1_ n2_
              have p567 : 0 ≤ (x12_2 : Int) := of_decide_eq_true (by first | (with_reducible assumption) | assumption)
              have q567 : x12_2 < (t564.length : Int) := of_decide_eq_true (by first | (with_reducible assumption) | assumption)
              obtain ⟨ad567, e567, hx567_0, hx567_1, hx567_2, hx567_3, hx567_4⟩ := at_T37 (Kd.R_reads' HO_9.out).2.2 x12_2 p567 q567
              cases e567
              replace p567 := eq_true p567
              replace q567 := eq_true q567
              refine start_ (n := 6) (S := fun w' => w'.cell? ⟨gb550, 0, none⟩ = some (.int .i64 t545) ∧ w'.cell? ⟨gb550, 1, none⟩ = some (.int .i64 t546) ∧ w'.cell? ⟨gb550, 2, none⟩ = some (.int .i64 t547) ∧ w'.cell? ⟨gb550, 3, none⟩ = some (.int .i64 t548) ∧ w'.cell? ⟨gb550, 4, none⟩ = some (.int .i64 t549) ∧ w'.cell? (ad567.add ((x12_2).toNat * 5)) = some (.int .i64 ((rd_T37 t564 x12_2).f0)) ∧ w'.cell? ⟨(ad567.add ((x12_2).toNat * 5)).block, (ad567.add ((x12_2).toNat * 5)).off + 1, none⟩ = some (.int .i64 ((rd_T37 t564 x12_2).f1)) ∧ w'.cell? ⟨(ad567.add ((x12_2).toNat * 5)).block, (ad567.add ((x12_2).toNat * 5)).off + 2, none⟩ = some (.int .i64 ((rd_T37 t564 x12_2).f2)) ∧ w'.cell? ⟨(ad567.add ((x12_2).toNat * 5)).block, (ad567.add ((x12_2).toNat * 5)).off + 3, none⟩ = some (.int .i64 ((rd_T37 t564 x12_2).f3)) ∧ w'.cell? ⟨(ad567.add ((x12_2).toNat * 5)).block, (ad567.add ((x12_2).toNat * 5)).off + 4, none⟩ = some (.int .i64 ((rd_T37 t564 x12_2).f4))) (ds := []) #[false, false, false, false, false, false] (by kernel_rfl) rfl rfl ⟨(blk_cell BK550.out 0).trans rfl, (blk_cell BK550.out 1).trans rfl, (blk_cell BK550.out 2).trans rfl, (blk_cell BK550.out 3).trans rfl, (blk_cell BK550.out 4).trans rfl, hx567_0, hx567_1, hx567_2, hx567_3, hx567_4⟩ (fun hHeld => ?_)
              generalize wr.drew = w55 at HO_9 BK550 HB hx567_0 hx567_1 hx567_2 hx567_3 hx567_4 hHeld ⊢
              refine pure_ (i := 0) (N := some 99) (v := ?_) (a' := ?_) #[true, false, false, false, false, false] rfl rfl (by kernel_rfl) (fun _ _ _ h => h) (Or.inl ⟨by rfl, ?_⟩) ?_ ?_
              rotate_left
              ·
               intro w'
               go_simp
               with_reducible rfl
              rotate_left
              ·
               simp only [Act.put, List.setIfInBounds_toArray, List.set_cons_zero, List.set_cons_succ, i64_w, i32_w]
               rfl
              refine pure_ (i := 1) (N := some 100) (v := ?_) (a' := ?_) #[true, true, false, false, false, false] rfl rfl (by kernel_rfl) (fun _ _ _ h => h) (Or.inl ⟨by rfl, ?_⟩) ?_ ?_
              rotate_left
              ·
               intro w'
               go_simp
               with_reducible rfl
              rotate_left
              ·
               simp only [Act.put, List.setIfInBounds_toArray, List.set_cons_zero, List.set_cons_succ, i64_w, i32_w]
               rfl
              refine pure_ (i := 2) (N := some 101) (v := ?_) (a' := ?_) #[true, true, true, false, false, false] rfl rfl (by kernel_rfl) (fun _ _ _ h => h) (Or.inl ⟨by rfl, ?_⟩) ?_ ?_
              rotate_left
              ·
               intro w'
               go_simp
               with_reducible rfl
              rotate_left
              ·
               simp only [Act.put, List.setIfInBounds_toArray, List.set_cons_zero, List.set_cons_succ, i64_w, i32_w]
               rfl
              refine take_ (i := 3) (N := some 102) (v := ?_) (a' := ?_) #[true, true, true, true, false, false] rfl rfl (by kernel_rfl) (fun _ _ _ h => h) (Or.inl ⟨by rfl, ?_⟩) hHeld ?_ ?_
              rotate_left
              ·
               rintro w' ⟨s0, s1, s2, s3, s4, s5, s6, s7, s8, s9⟩
               go_simp
               with_reducible rfl
              rotate_left
              ·
               simp only [Act.put, List.setIfInBounds_toArray, List.set_cons_zero, List.set_cons_succ, i64_w, i32_w]
               rfl
              refine take_ (i := 4) (N := some 103) (v := ?_) (a' := ?_) #[true, true, true, true, true, false] rfl rfl (by kernel_rfl) (fun _ _ _ h => h) (Or.inl ⟨by rfl, ?_⟩) hHeld ?_ ?_
              rotate_left
              ·
               rintro w' ⟨s0, s1, s2, s3, s4, s5, s6, s7, s8, s9⟩
               go_simp
               with_reducible rfl
              rotate_left
              ·
               simp only [Act.put, List.setIfInBounds_toArray, List.set_cons_zero, List.set_cons_succ, i64_w, i32_w]
               rfl
              refine pure_ (i := 5) (N := some 104) (v := ?_) (a' := ?_) #[true, true, true, true, true, true] rfl rfl (by kernel_rfl) (fun _ _ _ h => h) (Or.inl ⟨by rfl, ?_⟩) ?_ ?_
              rotate_left
              ·
               intro w'
               go_simp
               with_reducible rfl
              rotate_left
              ·
               simp only [Act.put, List.setIfInBounds_toArray, List.set_cons_zero, List.set_cons_succ, i64_w, i32_w]
               rfl
              refine done_ (by kernel_rfl) ?_
              try go_wp2
              have n0_ := Aside0.mk (Kd.R_drew HO_9.out)
              have n1_ := Aside0.mk (blk_drew BK550.out)
              have n2_ := Aside0.mk (below_drew1 HB.out)
              clear HO_9
              clear BK550
              clear HB
              have HO_9 := n0_
              have BK550 := n1_
              have HB := n2_
              clear n0_ n1_ n2_
              have p568 : 0 ≤ (x12_2 : Int) := of_decide_eq_true (by first | (with_reducible assumption) | assumption)
              have q568 : x12_2 < (t564.length : Int) := of_decide_eq_true (by first | (with_reducible assumption) | assumption)
              obtain ⟨ad568, e568, hx568_0, hx568_1, hx568_2, hx568_3, hx568_4⟩ := at_T37 (Kd.R_reads' HO_9.out).2.2 x12_2 p568 q568
              obtain rfl : ad567 = ad568 := (by injection e568)
              replace p568 := eq_true p568
              replace q568 := eq_true q568
              refine start_ (n := 12) (S := fun w' => w'.cell? ⟨gb550, 0, none⟩ = some (.int .i64 t545) ∧ w'.cell? ⟨gb550, 1, none⟩ = some (.int .i64 t546) ∧ w'.cell? ⟨gb550, 2, none⟩ = some (.int .i64 t547) ∧ w'.cell? ⟨gb550, 3, none⟩ = some (.int .i64 t548) ∧ w'.cell? ⟨gb550, 4, none⟩ = some (.int .i64 t549) ∧ w'.cell? (ad567.add ((x12_2).toNat * 5)) = some (.int .i64 ((rd_T37 t564 x12_2).f0)) ∧ w'.cell? ⟨(ad567.add ((x12_2).toNat * 5)).block, (ad567.add ((x12_2).toNat * 5)).off + 1, none⟩ = some (.int .i64 ((rd_T37 t564 x12_2).f1)) ∧ w'.cell? ⟨(ad567.add ((x12_2).toNat * 5)).block, (ad567.add ((x12_2).toNat * 5)).off + 2, none⟩ = some (.int .i64 ((rd_T37 t564 x12_2).f2)) ∧ w'.cell? ⟨(ad567.add ((x12_2).toNat * 5)).block, (ad567.add ((x12_2).toNat * 5)).off + 3, none⟩ = some (.int .i64 ((rd_T37 t564 x12_2).f3)) ∧ w'.cell? ⟨(ad567.add ((x12_2).toNat * 5)).block, (ad567.add ((x12_2).toNat * 5)).off + 4, none⟩ = some (.int .i64 ((rd_T37 t564 x12_2).f4))) (ds := []) #[false, false, false, false, false, false, false, false, false, false, false, false] (by kernel_rfl) rfl rfl ⟨(blk_cell BK550.out 0).trans rfl, (blk_cell BK550.out 1).trans rfl, (blk_cell BK550.out 2).trans rfl, (blk_cell BK550.out 3).trans rfl, (blk_cell BK550.out 4).trans rfl, hx568_0, hx568_1, hx568_2, hx568_3, hx568_4⟩ (fun hHeld => ?_); refine with_tabW laws_FnOpened.tab21 laws_FnOpened.bits21 (fun HT_ HW_ => ?_)
              generalize w55.drew = w56 at HO_9 BK550 HB hx568_0 hx568_1 hx568_2 hx568_3 hx568_4 hHeld ⊢
              refine pure_ (i := 0) (N := some 106) (v := ?_) (a' := ?_) #[true, false, false, false, false, false, false, false, false, false, false, false] rfl rfl (any_of HT_.out (by kernel_rfl)) (fun _ _ _ h => h) (Or.inl ⟨by rfl, ?_⟩) ?_ ?_
              rotate_left
              ·
               intro w'
               go_simp
               with_reducible rfl
              rotate_left
              ·
               simp only [Act.put, List.setIfInBounds_toArray, List.set_cons_zero, List.set_cons_succ, i64_w, i32_w]
               rfl
              refine pure_ (i := 1) (N := some 107) (v := ?_) (a' := ?_) #[true, true, false, false, false, false, false, false, false, false, false, false] rfl rfl (any_of HT_.out (by kernel_rfl)) (fun _ _ _ h => h) (Or.inl ⟨by rfl, ?_⟩) ?_ ?_
              rotate_left
              ·
               intro w'
               go_simp
               with_reducible rfl
              rotate_left
              ·
               simp only [Act.put, List.setIfInBounds_toArray, List.set_cons_zero, List.set_cons_succ, i64_w, i32_w]
               rfl
              refine pure_ (i := 2) (N := some 108) (v := ?_) (a' := ?_) #[true, true, true, false, false, false, false, false, false, false, false, false] rfl rfl (any_of HT_.out (by kernel_rfl)) (fun _ _ _ h => h) (Or.inl ⟨by rfl, ?_⟩) ?_ ?_
              rotate_left
              ·
               intro w'
               go_simp
               with_reducible rfl
              rotate_left
              ·
               simp only [Act.put, List.setIfInBounds_toArray, List.set_cons_zero, List.set_cons_succ, i64_w, i32_w]
               rfl
              refine pure_ (i := 3) (N := some 109) (v := ?_) (a' := ?_) #[true, true, true, true, false, false, false, false, false, false, false, false] rfl rfl (any_of HT_.out (by kernel_rfl)) (fun _ _ _ h => h) (Or.inl ⟨by rfl, ?_⟩) ?_ ?_
              rotate_left
              ·
               intro w'
               go_simp
               with_reducible rfl
              rotate_left
              ·
               simp only [Act.put, List.setIfInBounds_toArray, List.set_cons_zero, List.set_cons_succ, i64_w, i32_w]
               rfl
              refine pure_ (i := 5) (N := some 111) (v := ?_) (a' := ?_) #[true, true, true, true, false, true, false, false, false, false, false, false] rfl rfl (any_of HT_.out (by kernel_rfl)) (fun _ _ _ h => h) (Or.inl ⟨by rfl, ?_⟩) ?_ ?_
              rotate_left
              ·
               intro w'
               go_simp
               with_reducible rfl
              rotate_left
              ·
               simp only [Act.put, List.setIfInBounds_toArray, List.set_cons_zero, List.set_cons_succ, i64_w, i32_w]
               rfl
              refine take_ (i := 4) (N := some 110) (v := ?_) (a' := ?_) #[true, true, true, true, true, true, false, false, false, false, false, false] rfl rfl (take_ofW HT_.out HW_.out (by kernel_rfl)) (fun _ _ _ h => h) (Or.inl ⟨by rfl, ?_⟩) hHeld ?_ ?_
              rotate_left
              ·
               rintro w' ⟨s0, s1, s2, s3, s4, s5, s6, s7, s8, s9⟩
               go_simp
               with_reducible rfl
              rotate_left
              ·
               simp only [Act.put, List.setIfInBounds_toArray, List.set_cons_zero, List.set_cons_succ, i64_w, i32_w]
               rfl
              refine take_ (i := 6) (N := some 112) (v := ?_) (a' := ?_) #[true, true, true, true, true, true, true, false, false, false, false, false] rfl rfl (take_ofW HT_.out HW_.out (by kernel_rfl)) (fun _ _ _ h => h) (Or.inl ⟨by rfl, ?_⟩) hHeld ?_ ?_
              rotate_left
              ·
               rintro w' ⟨s0, s1, s2, s3, s4, s5, s6, s7, s8, s9⟩
               go_simp
               with_reducible rfl
              rotate_left
              ·
               simp only [Act.put, List.setIfInBounds_toArray, List.set_cons_zero, List.set_cons_succ, i64_w, i32_w]
               rfl
              refine pure_ (i := 7) (N := some 113) (v := ?_) (a' := ?_) #[true, true, true, true, true, true, true, true, false, false, false, false] rfl rfl (any_of HT_.out (by kernel_rfl)) (fun _ _ _ h => h) (Or.inl ⟨by rfl, ?_⟩) ?_ ?_
              rotate_left
              ·
               intro w'
               go_simp
               with_reducible rfl
              rotate_left
              ·
               simp only [Act.put, List.setIfInBounds_toArray, List.set_cons_zero, List.set_cons_succ, i64_w, i32_w]
               rfl
              refine pure_ (i := 8) (N := some 114) (v := ?_) (a' := ?_) #[true, true, true, true, true, true, true, true, true, false, false, false] rfl rfl (any_of HT_.out (by kernel_rfl)) (fun _ _ _ h => h) (Or.inl ⟨by rfl, ?_⟩) ?_ ?_
              rotate_left
              ·
               intro w'
               go_simp
               with_reducible rfl
              rotate_left
              ·
               simp only [Act.put, List.setIfInBounds_toArray, List.set_cons_zero, List.set_cons_succ, i64_w, i32_w]
               rfl
              refine pure_ (i := 9) (N := some 115) (v := undef) (a' := ?_) #[true, true, true, true, true, true, true, true, true, true, false, false] rfl rfl (any_of HT_.out (by kernel_rfl)) (fun _ _ _ h => h) (Or.inr ⟨by rfl, rfl⟩) ?_ ?_
              rotate_left
              ·
               simp only [Act.put, List.setIfInBounds_toArray, List.set_cons_zero, List.set_cons_succ, i64_w, i32_w]
               rfl
              refine pure_ (i := 10) (N := some 116) (v := undef) (a' := ?_) #[true, true, true, true, true, true, true, true, true, true, true, false] rfl rfl (any_of HT_.out (by kernel_rfl)) (fun _ _ _ h => h) (Or.inr ⟨by rfl, rfl⟩) ?_ ?_
              rotate_left
              ·
               simp only [Act.put, List.setIfInBounds_toArray, List.set_cons_zero, List.set_cons_succ, i64_w, i32_w]
               rfl
              refine pure_ (i := 11) (N := some 117) (v := ?_) (a' := ?_) #[true, true, true, true, true, true, true, true, true, true, true, true] rfl rfl (any_of HT_.out (by kernel_rfl)) (fun _ _ _ h => h) (Or.inl ⟨by rfl, ?_⟩) ?_ ?_
              rotate_left
              ·
               intro w'
               go_simp
               with_reducible rfl
              rotate_left
              ·
               simp only [Act.put, List.setIfInBounds_toArray, List.set_cons_zero, List.set_cons_succ, i64_w, i32_w]
               rfl
              refine done_ (done_of HT_.out (by kernel_rfl)) ?_
              try go_wp2
              go_roundg k2
              case measure => have := HJ17.out; have := HK2.out; omega
              case rel => exact ⟨(x12_2), (x11_2), (wrap64 (x12_2 + 1)), (by first | rfl | (simp; done) | (simp [*]; done)), (by first | rfl | (simp; done) | (simp [*]; done)), (by first | rfl | (simp; done) | (simp [*]; done)), H', ⟨by have := HJ17.out; have := HK2.out; omega⟩, ⟨by (with_reducible repeat (first | apply Kd.R_alloc | apply Kd.R_drewN | apply Kd.R_drew)); exact HO_9.out⟩, ⟨by (with_reducible repeat (first | refine blk_drewN ?_ _ | refine blk_drew ?_ | refine blk_alloc ?_ _)); exact BK550.out⟩, ⟨bg_ GE550.out⟩⟩
            ·
             rw [if_neg c45] at H
             have c45b0 : (((rd_T37 t564 x12_2).f0) == t545 && (((rd_T37 t564 x12_2).f1) == t546 && (((rd_T37 t564 x12_2).f2) == t547 && (((rd_T37 t564 x12_2).f3) == t548 && (((rd_T37 t564 x12_2).f4) == t549))))) = false := by simpa using c45
             (try (have c45b1 : decide (((rd_T37 t564 x12_2).f0) = t545 && (((rd_T37 t564 x12_2).f1) == t546 && (((rd_T37 t564 x12_2).f2) == t547 && (((rd_T37 t564 x12_2).f3) == t548 && (((rd_T37 t564 x12_2).f4) == t549))))) = false := by simpa using c45))
             (try (have c45b2 : (((rd_T37 t564 x12_2).f0) == t545 && (((rd_T37 t564 x12_2).f1) == t546 && (((rd_T37 t564 x12_2).f2) == t547 && (((rd_T37 t564 x12_2).f3) == t548 && (((rd_T37 t564 x12_2).f4) == t549))))) = false := by simpa using c45))
             (try (have c45b3 : ¬ (((rd_T37 t564 x12_2).f0) = t545 && (((rd_T37 t564 x12_2).f1) == t546 && (((rd_T37 t564 x12_2).f2) == t547 && (((rd_T37 t564 x12_2).f3) == t548 && (((rd_T37 t564 x12_2).f4) == t549))))) := by simpa using c45))
             clear c45
             by_cases c57 : ((rd_T37 t564 x12_2).f2) > t547
             ·
              rw [if_pos c57] at H
              have c57b0 : decide (t547 < ((rd_T37 t564 x12_2).f2)) = true := decide_eq_true c57
              clear c57
              by_cases c58 : x11_2 < 0
              ·
               rw [if_pos c58] at H
               have c58b0 : decide (x11_2 < 0) = true := decide_eq_true c58
               clear c58
               have H' := Aside0.mk H
               clear H
               obtain ⟨Ao59, co59, eo59⟩ := Kd.R_slice HO_9.out
               subst eo59
               try go_wp2
               have n0_ := Aside0.mk (Kd.R_drew HO_9.out)
               have n1_ := Aside0.mk (blk_drew BK550.out)
               have n2_ := Aside0.mk (below_drew1 HB.out)
               clear HO_9
               clear BK550
               clear HB
               have HO_9 := n0_
               have BK550 := n1_
               have HB := n2_
               clear n0_ n1_ n2_
               have p567 : 0 ≤ (x12_2 : Int) := of_decide_eq_true (by first | (with_reducible assumption) | assumption)
               have q567 : x12_2 < (t564.length : Int) := of_decide_eq_true (by first | (with_reducible assumption) | assumption)
               obtain ⟨ad567, e567, hx567_0, hx567_1, hx567_2, hx567_3, hx567_4⟩ := at_T37 (Kd.R_reads' HO_9.out).2.2 x12_2 p567 q567
               cases e567
               replace p567 := eq_true p567
               replace q567 := eq_true q567
               refine start_ (n := 6) (S := fun w' => w'.cell? ⟨gb550, 0, none⟩ = some (.int .i64 t545) ∧ w'.cell? ⟨gb550, 1, none⟩ = some (.int .i64 t546) ∧ w'.cell? ⟨gb550, 2, none⟩ = some (.int .i64 t547) ∧ w'.cell? ⟨gb550, 3, none⟩ = some (.int .i64 t548) ∧ w'.cell? ⟨gb550, 4, none⟩ = some (.int .i64 t549) ∧ w'.cell? (ad567.add ((x12_2).toNat * 5)) = some (.int .i64 ((rd_T37 t564 x12_2).f0)) ∧ w'.cell? ⟨(ad567.add ((x12_2).toNat * 5)).block, (ad567.add ((x12_2).toNat * 5)).off + 1, none⟩ = some (.int .i64 ((rd_T37 t564 x12_2).f1)) ∧ w'.cell? ⟨(ad567.add ((x12_2).toNat * 5)).block, (ad567.add ((x12_2).toNat * 5)).off + 2, none⟩ = some (.int .i64 ((rd_T37 t564 x12_2).f2)) ∧ w'.cell? ⟨(ad567.add ((x12_2).toNat * 5)).block, (ad567.add ((x12_2).toNat * 5)).off + 3, none⟩ = some (.int .i64 ((rd_T37 t564 x12_2).f3)) ∧ w'.cell? ⟨(ad567.add ((x12_2).toNat * 5)).block, (ad567.add ((x12_2).toNat * 5)).off + 4, none⟩ = some (.int .i64 ((rd_T37 t564 x12_2).f4))) (ds := []) #[false, false, false, false, false, false] (by kernel_rfl) rfl rfl ⟨(blk_cell BK550.out 0).trans rfl, (blk_cell BK550.out 1).trans rfl, (blk_cell BK550.out 2).trans rfl, (blk_cell BK550.out 3).trans rfl, (blk_cell BK550.out 4).trans rfl, hx567_0, hx567_1, hx567_2, hx567_3, hx567_4⟩ (fun hHeld => ?_)
               generalize wr.drew = w60 at HO_9 BK550 HB hx567_0 hx567_1 hx567_2 hx567_3 hx567_4 hHeld ⊢
               refine pure_ (i := 0) (N := some 99) (v := ?_) (a' := ?_) #[true, false, false, false, false, false] rfl rfl (by kernel_rfl) (fun _ _ _ h => h) (Or.inl ⟨by rfl, ?_⟩) ?_ ?_
               rotate_left
               ·
                intro w'
                go_simp
                with_reducible rfl
               rotate_left
               ·
                simp only [Act.put, List.setIfInBounds_toArray, List.set_cons_zero, List.set_cons_succ, i64_w, i32_w]
                rfl
               refine pure_ (i := 1) (N := some 100) (v := ?_) (a' := ?_) #[true, true, false, false, false, false] rfl rfl (by kernel_rfl) (fun _ _ _ h => h) (Or.inl ⟨by rfl, ?_⟩) ?_ ?_
               rotate_left
               ·
                intro w'
                go_simp
                with_reducible rfl
               rotate_left
               ·
                simp only [Act.put, List.setIfInBounds_toArray, List.set_cons_zero, List.set_cons_succ, i64_w, i32_w]
                rfl
               refine pure_ (i := 2) (N := some 101) (v := ?_) (a' := ?_) #[true, true, true, false, false, false] rfl rfl (by kernel_rfl) (fun _ _ _ h => h) (Or.inl ⟨by rfl, ?_⟩) ?_ ?_
               rotate_left
               ·
                intro w'
                go_simp
                with_reducible rfl
               rotate_left
               ·
                simp only [Act.put, List.setIfInBounds_toArray, List.set_cons_zero, List.set_cons_succ, i64_w, i32_w]
                rfl
               refine take_ (i := 3) (N := some 102) (v := ?_) (a' := ?_) #[true, true, true, true, false, false] rfl rfl (by kernel_rfl) (fun _ _ _ h => h) (Or.inl ⟨by rfl, ?_⟩) hHeld ?_ ?_
               rotate_left
               ·
                rintro w' ⟨s0, s1, s2, s3, s4, s5, s6, s7, s8, s9⟩
                go_simp
                with_reducible rfl
               rotate_left
               ·
                simp only [Act.put, List.setIfInBounds_toArray, List.set_cons_zero, List.set_cons_succ, i64_w, i32_w]
                rfl
               refine take_ (i := 4) (N := some 103) (v := ?_) (a' := ?_) #[true, true, true, true, true, false] rfl rfl (by kernel_rfl) (fun _ _ _ h => h) (Or.inl ⟨by rfl, ?_⟩) hHeld ?_ ?_
               rotate_left
               ·
                rintro w' ⟨s0, s1, s2, s3, s4, s5, s6, s7, s8, s9⟩
                go_simp
                with_reducible rfl
               rotate_left
               ·
                simp only [Act.put, List.setIfInBounds_toArray, List.set_cons_zero, List.set_cons_succ, i64_w, i32_w]
                rfl
               refine pure_ (i := 5) (N := some 104) (v := ?_) (a' := ?_) #[true, true, true, true, true, true] rfl rfl (by kernel_rfl) (fun _ _ _ h => h) (Or.inl ⟨by rfl, ?_⟩) ?_ ?_
               rotate_left
               ·
                intro w'
                go_simp
                with_reducible rfl
               rotate_left
               ·
                simp only [Act.put, List.setIfInBounds_toArray, List.set_cons_zero, List.set_cons_succ, i64_w, i32_w]
                rfl
               refine done_ (by kernel_rfl) ?_
               try go_wp2
               have n0_ := Aside0.mk (Kd.R_drew HO_9.out)
               have n1_ := Aside0.mk (blk_drew BK550.out)
               have n2_ := Aside0.mk (below_drew1 HB.out)
               clear HO_9
               clear BK550
               clear HB
               have HO_9 := n0_
               have BK550 := n1_
               have HB := n2_
               clear n0_ n1_ n2_
               have p569 : 0 ≤ (x12_2 : Int) := of_decide_eq_true (by first | (with_reducible assumption) | assumption)
               have q569 : x12_2 < (t564.length : Int) := of_decide_eq_true (by first | (with_reducible assumption) | assumption)
               obtain ⟨ad569, e569, hx569_0, hx569_1, hx569_2, hx569_3, hx569_4⟩ := at_T37 (Kd.R_reads' HO_9.out).2.2 x12_2 p569 q569
               obtain rfl : ad567 = ad569 := (by injection e569)
               replace p569 := eq_true p569
               replace q569 := eq_true q569
               refine start_ (n := 12) (S := fun w' => w'.cell? ⟨gb550, 0, none⟩ = some (.int .i64 t545) ∧ w'.cell? ⟨gb550, 1, none⟩ = some (.int .i64 t546) ∧ w'.cell? ⟨gb550, 2, none⟩ = some (.int .i64 t547) ∧ w'.cell? ⟨gb550, 3, none⟩ = some (.int .i64 t548) ∧ w'.cell? ⟨gb550, 4, none⟩ = some (.int .i64 t549) ∧ w'.cell? (ad567.add ((x12_2).toNat * 5)) = some (.int .i64 ((rd_T37 t564 x12_2).f0)) ∧ w'.cell? ⟨(ad567.add ((x12_2).toNat * 5)).block, (ad567.add ((x12_2).toNat * 5)).off + 1, none⟩ = some (.int .i64 ((rd_T37 t564 x12_2).f1)) ∧ w'.cell? ⟨(ad567.add ((x12_2).toNat * 5)).block, (ad567.add ((x12_2).toNat * 5)).off + 2, none⟩ = some (.int .i64 ((rd_T37 t564 x12_2).f2)) ∧ w'.cell? ⟨(ad567.add ((x12_2).toNat * 5)).block, (ad567.add ((x12_2).toNat * 5)).off + 3, none⟩ = some (.int .i64 ((rd_T37 t564 x12_2).f3)) ∧ w'.cell? ⟨(ad567.add ((x12_2).toNat * 5)).block, (ad567.add ((x12_2).toNat * 5)).off + 4, none⟩ = some (.int .i64 ((rd_T37 t564 x12_2).f4))) (ds := []) #[false, false, false, false, false, false, false, false, false, false, false, false] (by kernel_rfl) rfl rfl ⟨(blk_cell BK550.out 0).trans rfl, (blk_cell BK550.out 1).trans rfl, (blk_cell BK550.out 2).trans rfl, (blk_cell BK550.out 3).trans rfl, (blk_cell BK550.out 4).trans rfl, hx569_0, hx569_1, hx569_2, hx569_3, hx569_4⟩ (fun hHeld => ?_); refine with_tabW laws_FnOpened.tab21 laws_FnOpened.bits21 (fun HT_ HW_ => ?_)
               generalize w60.drew = w61 at HO_9 BK550 HB hx569_0 hx569_1 hx569_2 hx569_3 hx569_4 hHeld ⊢
               refine pure_ (i := 0) (N := some 106) (v := ?_) (a' := ?_) #[true, false, false, false, false, false, false, false, false, false, false, false] rfl rfl (any_of HT_.out (by kernel_rfl)) (fun _ _ _ h => h) (Or.inl ⟨by rfl, ?_⟩) ?_ ?_
               rotate_left
               ·
                intro w'
                go_simp
                with_reducible rfl
               rotate_left
               ·
                simp only [Act.put, List.setIfInBounds_toArray, List.set_cons_zero, List.set_cons_succ, i64_w, i32_w]
                rfl
               refine pure_ (i := 1) (N := some 107) (v := ?_) (a' := ?_) #[true, true, false, false, false, false, false, false, false, false, false, false] rfl rfl (any_of HT_.out (by kernel_rfl)) (fun _ _ _ h => h) (Or.inl ⟨by rfl, ?_⟩) ?_ ?_
               rotate_left
               ·
                intro w'
                go_simp
                with_reducible rfl
               rotate_left
               ·
                simp only [Act.put, List.setIfInBounds_toArray, List.set_cons_zero, List.set_cons_succ, i64_w, i32_w]
                rfl
               refine pure_ (i := 2) (N := some 108) (v := ?_) (a' := ?_) #[true, true, true, false, false, false, false, false, false, false, false, false] rfl rfl (any_of HT_.out (by kernel_rfl)) (fun _ _ _ h => h) (Or.inl ⟨by rfl, ?_⟩) ?_ ?_
               rotate_left
               ·
                intro w'
                go_simp
                with_reducible rfl
               rotate_left
               ·
                simp only [Act.put, List.setIfInBounds_toArray, List.set_cons_zero, List.set_cons_succ, i64_w, i32_w]
                rfl
               refine pure_ (i := 3) (N := some 109) (v := ?_) (a' := ?_) #[true, true, true, true, false, false, false, false, false, false, false, false] rfl rfl (any_of HT_.out (by kernel_rfl)) (fun _ _ _ h => h) (Or.inl ⟨by rfl, ?_⟩) ?_ ?_
               rotate_left
               ·
                intro w'
                go_simp
                with_reducible rfl
               rotate_left
               ·
                simp only [Act.put, List.setIfInBounds_toArray, List.set_cons_zero, List.set_cons_succ, i64_w, i32_w]
                rfl
               refine pure_ (i := 5) (N := some 111) (v := ?_) (a' := ?_) #[true, true, true, true, false, true, false, false, false, false, false, false] rfl rfl (any_of HT_.out (by kernel_rfl)) (fun _ _ _ h => h) (Or.inl ⟨by rfl, ?_⟩) ?_ ?_
               rotate_left
               ·
                intro w'
                go_simp
                with_reducible rfl
               rotate_left
               ·
                simp only [Act.put, List.setIfInBounds_toArray, List.set_cons_zero, List.set_cons_succ, i64_w, i32_w]
                rfl
               refine take_ (i := 4) (N := some 110) (v := ?_) (a' := ?_) #[true, true, true, true, true, true, false, false, false, false, false, false] rfl rfl (take_ofW HT_.out HW_.out (by kernel_rfl)) (fun _ _ _ h => h) (Or.inl ⟨by rfl, ?_⟩) hHeld ?_ ?_
               rotate_left
               ·
                rintro w' ⟨s0, s1, s2, s3, s4, s5, s6, s7, s8, s9⟩
                go_simp
                with_reducible rfl
               rotate_left
               ·
                simp only [Act.put, List.setIfInBounds_toArray, List.set_cons_zero, List.set_cons_succ, i64_w, i32_w]
                rfl
               refine take_ (i := 6) (N := some 112) (v := ?_) (a' := ?_) #[true, true, true, true, true, true, true, false, false, false, false, false] rfl rfl (take_ofW HT_.out HW_.out (by kernel_rfl)) (fun _ _ _ h => h) (Or.inl ⟨by rfl, ?_⟩) hHeld ?_ ?_
               rotate_left
               ·
                rintro w' ⟨s0, s1, s2, s3, s4, s5, s6, s7, s8, s9⟩
                go_simp
                with_reducible rfl
               rotate_left
               ·
                simp only [Act.put, List.setIfInBounds_toArray, List.set_cons_zero, List.set_cons_succ, i64_w, i32_w]
                rfl
               refine pure_ (i := 7) (N := some 113) (v := ?_) (a' := ?_) #[true, true, true, true, true, true, true, true, false, false, false, false] rfl rfl (any_of HT_.out (by kernel_rfl)) (fun _ _ _ h => h) (Or.inl ⟨by rfl, ?_⟩) ?_ ?_
               rotate_left
               ·
                intro w'
                go_simp
                with_reducible rfl
               rotate_left
               ·
                simp only [Act.put, List.setIfInBounds_toArray, List.set_cons_zero, List.set_cons_succ, i64_w, i32_w]
                rfl
               refine pure_ (i := 8) (N := some 114) (v := ?_) (a' := ?_) #[true, true, true, true, true, true, true, true, true, false, false, false] rfl rfl (any_of HT_.out (by kernel_rfl)) (fun _ _ _ h => h) (Or.inl ⟨by rfl, ?_⟩) ?_ ?_
               rotate_left
               ·
                intro w'
                go_simp
                with_reducible rfl
               rotate_left
               ·
                simp only [Act.put, List.setIfInBounds_toArray, List.set_cons_zero, List.set_cons_succ, i64_w, i32_w]
                rfl
               refine pure_ (i := 9) (N := some 115) (v := ?_) (a' := ?_) #[true, true, true, true, true, true, true, true, true, true, false, false] rfl rfl (any_of HT_.out (by kernel_rfl)) (fun _ _ _ h => h) (Or.inl ⟨by rfl, ?_⟩) ?_ ?_
               rotate_left
               ·
                intro w'
                go_simp
                with_reducible rfl
               rotate_left
               ·
                simp only [Act.put, List.setIfInBounds_toArray, List.set_cons_zero, List.set_cons_succ, i64_w, i32_w]
                rfl
               refine pure_ (i := 10) (N := some 116) (v := ?_) (a' := ?_) #[true, true, true, true, true, true, true, true, true, true, true, false] rfl rfl (any_of HT_.out (by kernel_rfl)) (fun _ _ _ h => h) (Or.inl ⟨by rfl, ?_⟩) ?_ ?_
               rotate_left
               ·
                intro w'
                go_simp
                with_reducible rfl
               rotate_left
               ·
                simp only [Act.put, List.setIfInBounds_toArray, List.set_cons_zero, List.set_cons_succ, i64_w, i32_w]
                rfl
               refine pure_ (i := 11) (N := some 117) (v := ?_) (a' := ?_) #[true, true, true, true, true, true, true, true, true, true, true, true] rfl rfl (any_of HT_.out (by kernel_rfl)) (fun _ _ _ h => h) (Or.inl ⟨by rfl, ?_⟩) ?_ ?_
               rotate_left
               ·
                intro w'
                go_simp
                with_reducible rfl
               rotate_left
               ·
                simp only [Act.put, List.setIfInBounds_toArray, List.set_cons_zero, List.set_cons_succ, i64_w, i32_w]
                rfl
               refine done_ (done_of HT_.out (by kernel_rfl)) ?_
               try go_wp2
               go_roundg k2
               case measure => have := HJ17.out; have := HK2.out; omega
               case rel => exact ⟨(x10_2), (x12_2), (wrap64 (x12_2 + 1)), (by first | rfl | (simp; done) | (simp [*]; done)), (by first | rfl | (simp; done) | (simp [*]; done)), (by first | rfl | (simp; done) | (simp [*]; done)), H', ⟨by have := HJ17.out; have := HK2.out; omega⟩, ⟨by (with_reducible repeat (first | apply Kd.R_alloc | apply Kd.R_drewN | apply Kd.R_drew)); exact HO_9.out⟩, ⟨by (with_reducible repeat (first | refine blk_drewN ?_ _ | refine blk_drew ?_ | refine blk_alloc ?_ _)); exact BK550.out⟩, ⟨bg_ GE550.out⟩⟩
              ·
               rw [if_neg c58] at H
               have c58b0 : decide (x11_2 < 0) = false := decide_eq_false c58
               clear c58
               have H' := Aside0.mk H
               clear H
               obtain ⟨Ao62, co62, eo62⟩ := Kd.R_slice HO_9.out
               subst eo62
               try go_wp2
               have n0_ := Aside0.mk (Kd.R_drew HO_9.out)
               have n1_ := Aside0.mk (blk_drew BK550.out)
               have n2_ := Aside0.mk (below_drew1 HB.out)
               clear HO_9
               clear BK550
               clear HB
               have HO_9 := n0_
               have BK550 := n1_
               have HB := n2_
               clear n0_ n1_ n2_
               have p567 : 0 ≤ (x12_2 : Int) := of_decide_eq_true (by first | (with_reducible assumption) | assumption)
               have q567 : x12_2 < (t564.length : Int) := of_decide_eq_true (by first | (with_reducible assumption) | assumption)
               obtain ⟨ad567, e567, hx567_0, hx567_1, hx567_2, hx567_3, hx567_4⟩ := at_T37 (Kd.R_reads' HO_9.out).2.2 x12_2 p567 q567
               cases e567
               replace p567 := eq_true p567
               replace q567 := eq_true q567
               refine start_ (n := 6) (S := fun w' => w'.cell? ⟨gb550, 0, none⟩ = some (.int .i64 t545) ∧ w'.cell? ⟨gb550, 1, none⟩ = some (.int .i64 t546) ∧ w'.cell? ⟨gb550, 2, none⟩ = some (.int .i64 t547) ∧ w'.cell? ⟨gb550, 3, none⟩ = some (.int .i64 t548) ∧ w'.cell? ⟨gb550, 4, none⟩ = some (.int .i64 t549) ∧ w'.cell? (ad567.add ((x12_2).toNat * 5)) = some (.int .i64 ((rd_T37 t564 x12_2).f0)) ∧ w'.cell? ⟨(ad567.add ((x12_2).toNat * 5)).block, (ad567.add ((x12_2).toNat * 5)).off + 1, none⟩ = some (.int .i64 ((rd_T37 t564 x12_2).f1)) ∧ w'.cell? ⟨(ad567.add ((x12_2).toNat * 5)).block, (ad567.add ((x12_2).toNat * 5)).off + 2, none⟩ = some (.int .i64 ((rd_T37 t564 x12_2).f2)) ∧ w'.cell? ⟨(ad567.add ((x12_2).toNat * 5)).block, (ad567.add ((x12_2).toNat * 5)).off + 3, none⟩ = some (.int .i64 ((rd_T37 t564 x12_2).f3)) ∧ w'.cell? ⟨(ad567.add ((x12_2).toNat * 5)).block, (ad567.add ((x12_2).toNat * 5)).off + 4, none⟩ = some (.int .i64 ((rd_T37 t564 x12_2).f4))) (ds := []) #[false, false, false, false, false, false] (by kernel_rfl) rfl rfl ⟨(blk_cell BK550.out 0).trans rfl, (blk_cell BK550.out 1).trans rfl, (blk_cell BK550.out 2).trans rfl, (blk_cell BK550.out 3).trans rfl, (blk_cell BK550.out 4).trans rfl, hx567_0, hx567_1, hx567_2, hx567_3, hx567_4⟩ (fun hHeld => ?_)
               generalize wr.drew = w63 at HO_9 BK550 HB hx567_0 hx567_1 hx567_2 hx567_3 hx567_4 hHeld ⊢
               refine pure_ (i := 0) (N := some 99) (v := ?_) (a' := ?_) #[true, false, false, false, false, false] rfl rfl (by kernel_rfl) (fun _ _ _ h => h) (Or.inl ⟨by rfl, ?_⟩) ?_ ?_
               rotate_left
               ·
                intro w'
                go_simp
                with_reducible rfl
               rotate_left
               ·
                simp only [Act.put, List.setIfInBounds_toArray, List.set_cons_zero, List.set_cons_succ, i64_w, i32_w]
                rfl
               refine pure_ (i := 1) (N := some 100) (v := ?_) (a' := ?_) #[true, true, false, false, false, false] rfl rfl (by kernel_rfl) (fun _ _ _ h => h) (Or.inl ⟨by rfl, ?_⟩) ?_ ?_
               rotate_left
               ·
                intro w'
                go_simp
                with_reducible rfl
               rotate_left
               ·
                simp only [Act.put, List.setIfInBounds_toArray, List.set_cons_zero, List.set_cons_succ, i64_w, i32_w]
                rfl
               refine pure_ (i := 2) (N := some 101) (v := ?_) (a' := ?_) #[true, true, true, false, false, false] rfl rfl (by kernel_rfl) (fun _ _ _ h => h) (Or.inl ⟨by rfl, ?_⟩) ?_ ?_
               rotate_left
               ·
                intro w'
                go_simp
                with_reducible rfl
               rotate_left
               ·
                simp only [Act.put, List.setIfInBounds_toArray, List.set_cons_zero, List.set_cons_succ, i64_w, i32_w]
                rfl
               refine take_ (i := 3) (N := some 102) (v := ?_) (a' := ?_) #[true, true, true, true, false, false] rfl rfl (by kernel_rfl) (fun _ _ _ h => h) (Or.inl ⟨by rfl, ?_⟩) hHeld ?_ ?_
               rotate_left
               ·
                rintro w' ⟨s0, s1, s2, s3, s4, s5, s6, s7, s8, s9⟩
                go_simp
                with_reducible rfl
               rotate_left
               ·
                simp only [Act.put, List.setIfInBounds_toArray, List.set_cons_zero, List.set_cons_succ, i64_w, i32_w]
                rfl
               refine take_ (i := 4) (N := some 103) (v := ?_) (a' := ?_) #[true, true, true, true, true, false] rfl rfl (by kernel_rfl) (fun _ _ _ h => h) (Or.inl ⟨by rfl, ?_⟩) hHeld ?_ ?_
               rotate_left
               ·
                rintro w' ⟨s0, s1, s2, s3, s4, s5, s6, s7, s8, s9⟩
                go_simp
                with_reducible rfl
               rotate_left
               ·
                simp only [Act.put, List.setIfInBounds_toArray, List.set_cons_zero, List.set_cons_succ, i64_w, i32_w]
                rfl
               refine pure_ (i := 5) (N := some 104) (v := ?_) (a' := ?_) #[true, true, true, true, true, true] rfl rfl (by kernel_rfl) (fun _ _ _ h => h) (Or.inl ⟨by rfl, ?_⟩) ?_ ?_
               rotate_left
               ·
                intro w'
                go_simp
                with_reducible rfl
               rotate_left
               ·
                simp only [Act.put, List.setIfInBounds_toArray, List.set_cons_zero, List.set_cons_succ, i64_w, i32_w]
                rfl
               refine done_ (by kernel_rfl) ?_
               try go_wp2
               have n0_ := Aside0.mk (Kd.R_drew HO_9.out)
               have n1_ := Aside0.mk (blk_drew BK550.out)
               have n2_ := Aside0.mk (below_drew1 HB.out)
               clear HO_9
               clear BK550
               clear HB
               have HO_9 := n0_
               have BK550 := n1_
               have HB := n2_
               clear n0_ n1_ n2_
               have p569 : 0 ≤ (x12_2 : Int) := of_decide_eq_true (by first | (with_reducible assumption) | assumption)
               have q569 : x12_2 < (t564.length : Int) := of_decide_eq_true (by first | (with_reducible assumption) | assumption)
               obtain ⟨ad569, e569, hx569_0, hx569_1, hx569_2, hx569_3, hx569_4⟩ := at_T37 (Kd.R_reads' HO_9.out).2.2 x12_2 p569 q569
               obtain rfl : ad567 = ad569 := (by injection e569)
               replace p569 := eq_true p569
               replace q569 := eq_true q569
               refine start_ (n := 12) (S := fun w' => w'.cell? ⟨gb550, 0, none⟩ = some (.int .i64 t545) ∧ w'.cell? ⟨gb550, 1, none⟩ = some (.int .i64 t546) ∧ w'.cell? ⟨gb550, 2, none⟩ = some (.int .i64 t547) ∧ w'.cell? ⟨gb550, 3, none⟩ = some (.int .i64 t548) ∧ w'.cell? ⟨gb550, 4, none⟩ = some (.int .i64 t549) ∧ w'.cell? (ad567.add ((x12_2).toNat * 5)) = some (.int .i64 ((rd_T37 t564 x12_2).f0)) ∧ w'.cell? ⟨(ad567.add ((x12_2).toNat * 5)).block, (ad567.add ((x12_2).toNat * 5)).off + 1, none⟩ = some (.int .i64 ((rd_T37 t564 x12_2).f1)) ∧ w'.cell? ⟨(ad567.add ((x12_2).toNat * 5)).block, (ad567.add ((x12_2).toNat * 5)).off + 2, none⟩ = some (.int .i64 ((rd_T37 t564 x12_2).f2)) ∧ w'.cell? ⟨(ad567.add ((x12_2).toNat * 5)).block, (ad567.add ((x12_2).toNat * 5)).off + 3, none⟩ = some (.int .i64 ((rd_T37 t564 x12_2).f3)) ∧ w'.cell? ⟨(ad567.add ((x12_2).toNat * 5)).block, (ad567.add ((x12_2).toNat * 5)).off + 4, none⟩ = some (.int .i64 ((rd_T37 t564 x12_2).f4))) (ds := []) #[false, false, false, false, false, false, false, false, false, false, false, false] (by kernel_rfl) rfl rfl ⟨(blk_cell BK550.out 0).trans rfl, (blk_cell BK550.out 1).trans rfl, (blk_cell BK550.out 2).trans rfl, (blk_cell BK550.out 3).trans rfl, (blk_cell BK550.out 4).trans rfl, hx569_0, hx569_1, hx569_2, hx569_3, hx569_4⟩ (fun hHeld => ?_); refine with_tabW laws_FnOpened.tab21 laws_FnOpened.bits21 (fun HT_ HW_ => ?_)
               generalize w63.drew = w64 at HO_9 BK550 HB hx569_0 hx569_1 hx569_2 hx569_3 hx569_4 hHeld ⊢
               refine pure_ (i := 0) (N := some 106) (v := ?_) (a' := ?_) #[true, false, false, false, false, false, false, false, false, false, false, false] rfl rfl (any_of HT_.out (by kernel_rfl)) (fun _ _ _ h => h) (Or.inl ⟨by rfl, ?_⟩) ?_ ?_
               rotate_left
               ·
                intro w'
                go_simp
                with_reducible rfl
               rotate_left
               ·
                simp only [Act.put, List.setIfInBounds_toArray, List.set_cons_zero, List.set_cons_succ, i64_w, i32_w]
                rfl
               refine pure_ (i := 1) (N := some 107) (v := ?_) (a' := ?_) #[true, true, false, false, false, false, false, false, false, false, false, false] rfl rfl (any_of HT_.out (by kernel_rfl)) (fun _ _ _ h => h) (Or.inl ⟨by rfl, ?_⟩) ?_ ?_
               rotate_left
               ·
                intro w'
                go_simp
                with_reducible rfl
               rotate_left
               ·
                simp only [Act.put, List.setIfInBounds_toArray, List.set_cons_zero, List.set_cons_succ, i64_w, i32_w]
                rfl
               refine pure_ (i := 2) (N := some 108) (v := ?_) (a' := ?_) #[true, true, true, false, false, false, false, false, false, false, false, false] rfl rfl (any_of HT_.out (by kernel_rfl)) (fun _ _ _ h => h) (Or.inl ⟨by rfl, ?_⟩) ?_ ?_
               rotate_left
               ·
                intro w'
                go_simp
                with_reducible rfl
               rotate_left
               ·
                simp only [Act.put, List.setIfInBounds_toArray, List.set_cons_zero, List.set_cons_succ, i64_w, i32_w]
                rfl
               refine pure_ (i := 3) (N := some 109) (v := ?_) (a' := ?_) #[true, true, true, true, false, false, false, false, false, false, false, false] rfl rfl (any_of HT_.out (by kernel_rfl)) (fun _ _ _ h => h) (Or.inl ⟨by rfl, ?_⟩) ?_ ?_
               rotate_left
               ·
                intro w'
                go_simp
                with_reducible rfl
               rotate_left
               ·
                simp only [Act.put, List.setIfInBounds_toArray, List.set_cons_zero, List.set_cons_succ, i64_w, i32_w]
                rfl
               refine pure_ (i := 5) (N := some 111) (v := ?_) (a' := ?_) #[true, true, true, true, false, true, false, false, false, false, false, false] rfl rfl (any_of HT_.out (by kernel_rfl)) (fun _ _ _ h => h) (Or.inl ⟨by rfl, ?_⟩) ?_ ?_
               rotate_left
               ·
                intro w'
                go_simp
                with_reducible rfl
               rotate_left
               ·
                simp only [Act.put, List.setIfInBounds_toArray, List.set_cons_zero, List.set_cons_succ, i64_w, i32_w]
                rfl
               refine take_ (i := 4) (N := some 110) (v := ?_) (a' := ?_) #[true, true, true, true, true, true, false, false, false, false, false, false] rfl rfl (take_ofW HT_.out HW_.out (by kernel_rfl)) (fun _ _ _ h => h) (Or.inl ⟨by rfl, ?_⟩) hHeld ?_ ?_
               rotate_left
               ·
                rintro w' ⟨s0, s1, s2, s3, s4, s5, s6, s7, s8, s9⟩
                go_simp
                with_reducible rfl
               rotate_left
               ·
                simp only [Act.put, List.setIfInBounds_toArray, List.set_cons_zero, List.set_cons_succ, i64_w, i32_w]
                rfl
               refine take_ (i := 6) (N := some 112) (v := ?_) (a' := ?_) #[true, true, true, true, true, true, true, false, false, false, false, false] rfl rfl (take_ofW HT_.out HW_.out (by kernel_rfl)) (fun _ _ _ h => h) (Or.inl ⟨by rfl, ?_⟩) hHeld ?_ ?_
               rotate_left
               ·
                rintro w' ⟨s0, s1, s2, s3, s4, s5, s6, s7, s8, s9⟩
                go_simp
                with_reducible rfl
               rotate_left
               ·
                simp only [Act.put, List.setIfInBounds_toArray, List.set_cons_zero, List.set_cons_succ, i64_w, i32_w]
                rfl
               refine pure_ (i := 7) (N := some 113) (v := ?_) (a' := ?_) #[true, true, true, true, true, true, true, true, false, false, false, false] rfl rfl (any_of HT_.out (by kernel_rfl)) (fun _ _ _ h => h) (Or.inl ⟨by rfl, ?_⟩) ?_ ?_
               rotate_left
               ·
                intro w'
                go_simp
                with_reducible rfl
               rotate_left
               ·
                simp only [Act.put, List.setIfInBounds_toArray, List.set_cons_zero, List.set_cons_succ, i64_w, i32_w]
                rfl
               refine pure_ (i := 8) (N := some 114) (v := ?_) (a' := ?_) #[true, true, true, true, true, true, true, true, true, false, false, false] rfl rfl (any_of HT_.out (by kernel_rfl)) (fun _ _ _ h => h) (Or.inl ⟨by rfl, ?_⟩) ?_ ?_
               rotate_left
               ·
                intro w'
                go_simp
                with_reducible rfl
               rotate_left
               ·
                simp only [Act.put, List.setIfInBounds_toArray, List.set_cons_zero, List.set_cons_succ, i64_w, i32_w]
                rfl
               refine pure_ (i := 9) (N := some 115) (v := ?_) (a' := ?_) #[true, true, true, true, true, true, true, true, true, true, false, false] rfl rfl (any_of HT_.out (by kernel_rfl)) (fun _ _ _ h => h) (Or.inl ⟨by rfl, ?_⟩) ?_ ?_
               rotate_left
               ·
                intro w'
                go_simp
                with_reducible rfl
               rotate_left
               ·
                simp only [Act.put, List.setIfInBounds_toArray, List.set_cons_zero, List.set_cons_succ, i64_w, i32_w]
                rfl
               refine pure_ (i := 10) (N := some 116) (v := ?_) (a' := ?_) #[true, true, true, true, true, true, true, true, true, true, true, false] rfl rfl (any_of HT_.out (by kernel_rfl)) (fun _ _ _ h => h) (Or.inl ⟨by rfl, ?_⟩) ?_ ?_
               rotate_left
               ·
                intro w'
                go_simp
                with_reducible rfl
               rotate_left
               ·
                simp only [Act.put, List.setIfInBounds_toArray, List.set_cons_zero, List.set_cons_succ, i64_w, i32_w]
                rfl
               refine pure_ (i := 11) (N := some 117) (v := ?_) (a' := ?_) #[true, true, true, true, true, true, true, true, true, true, true, true] rfl rfl (any_of HT_.out (by kernel_rfl)) (fun _ _ _ h => h) (Or.inl ⟨by rfl, ?_⟩) ?_ ?_
               rotate_left
               ·
                intro w'
                go_simp
                with_reducible rfl
               rotate_left
               ·
                simp only [Act.put, List.setIfInBounds_toArray, List.set_cons_zero, List.set_cons_succ, i64_w, i32_w]
                rfl
               refine done_ (done_of HT_.out (by kernel_rfl)) ?_
               try go_wp2
               go_roundg k2
               case measure => have := HJ17.out; have := HK2.out; omega
               case rel => exact ⟨(x10_2), (x11_2), (wrap64 (x12_2 + 1)), (by first | rfl | (simp; done) | (simp [*]; done)), (by first | rfl | (simp; done) | (simp [*]; done)), (by first | rfl | (simp; done) | (simp [*]; done)), H', ⟨by have := HJ17.out; have := HK2.out; omega⟩, ⟨by (with_reducible repeat (first | apply Kd.R_alloc | apply Kd.R_drewN | apply Kd.R_drew)); exact HO_9.out⟩, ⟨by (with_reducible repeat (first | refine blk_drewN ?_ _ | refine blk_drew ?_ | refine blk_alloc ?_ _)); exact BK550.out⟩, ⟨bg_ GE550.out⟩⟩
             ·
              rw [if_neg c57] at H
              have c57b0 : decide (t547 < ((rd_T37 t564 x12_2).f2)) = false := decide_eq_false c57
              clear c57
              have H' := Aside0.mk H
              clear H
              obtain ⟨Ao65, co65, eo65⟩ := Kd.R_slice HO_9.out
              subst eo65
              try go_wp2
              have n0_ := Aside0.mk (Kd.R_drew HO_9.out)
              have n1_ := Aside0.mk (blk_drew BK550.out)
              have n2_ := Aside0.mk (below_drew1 HB.out)
              clear HO_9
              clear BK550
              clear HB
              have HO_9 := n0_
              have BK550 := n1_
              have HB := n2_
              clear n0_ n1_ n2_
              have p567 : 0 ≤ (x12_2 : Int) := of_decide_eq_true (by first | (with_reducible assumption) | assumption)
              have q567 : x12_2 < (t564.length : Int) := of_decide_eq_true (by first | (with_reducible assumption) | assumption)
              obtain ⟨ad567, e567, hx567_0, hx567_1, hx567_2, hx567_3, hx567_4⟩ := at_T37 (Kd.R_reads' HO_9.out).2.2 x12_2 p567 q567
              cases e567
              replace p567 := eq_true p567
              replace q567 := eq_true q567
              refine start_ (n := 6) (S := fun w' => w'.cell? ⟨gb550, 0, none⟩ = some (.int .i64 t545) ∧ w'.cell? ⟨gb550, 1, none⟩ = some (.int .i64 t546) ∧ w'.cell? ⟨gb550, 2, none⟩ = some (.int .i64 t547) ∧ w'.cell? ⟨gb550, 3, none⟩ = some (.int .i64 t548) ∧ w'.cell? ⟨gb550, 4, none⟩ = some (.int .i64 t549) ∧ w'.cell? (ad567.add ((x12_2).toNat * 5)) = some (.int .i64 ((rd_T37 t564 x12_2).f0)) ∧ w'.cell? ⟨(ad567.add ((x12_2).toNat * 5)).block, (ad567.add ((x12_2).toNat * 5)).off + 1, none⟩ = some (.int .i64 ((rd_T37 t564 x12_2).f1)) ∧ w'.cell? ⟨(ad567.add ((x12_2).toNat * 5)).block, (ad567.add ((x12_2).toNat * 5)).off + 2, none⟩ = some (.int .i64 ((rd_T37 t564 x12_2).f2)) ∧ w'.cell? ⟨(ad567.add ((x12_2).toNat * 5)).block, (ad567.add ((x12_2).toNat * 5)).off + 3, none⟩ = some (.int .i64 ((rd_T37 t564 x12_2).f3)) ∧ w'.cell? ⟨(ad567.add ((x12_2).toNat * 5)).block, (ad567.add ((x12_2).toNat * 5)).off + 4, none⟩ = some (.int .i64 ((rd_T37 t564 x12_2).f4))) (ds := []) #[false, false, false, false, false, false] (by kernel_rfl) rfl rfl ⟨(blk_cell BK550.out 0).trans rfl, (blk_cell BK550.out 1).trans rfl, (blk_cell BK550.out 2).trans rfl, (blk_cell BK550.out 3).trans rfl, (blk_cell BK550.out 4).trans rfl, hx567_0, hx567_1, hx567_2, hx567_3, hx567_4⟩ (fun hHeld => ?_)
              generalize wr.drew = w66 at HO_9 BK550 HB hx567_0 hx567_1 hx567_2 hx567_3 hx567_4 hHeld ⊢
              refine pure_ (i := 0) (N := some 99) (v := ?_) (a' := ?_) #[true, false, false, false, false, false] rfl rfl (by kernel_rfl) (fun _ _ _ h => h) (Or.inl ⟨by rfl, ?_⟩) ?_ ?_
              rotate_left
              ·
               intro w'
               go_simp
               with_reducible rfl
              rotate_left
              ·
               simp only [Act.put, List.setIfInBounds_toArray, List.set_cons_zero, List.set_cons_succ, i64_w, i32_w]
               rfl
              refine pure_ (i := 1) (N := some 100) (v := ?_) (a' := ?_) #[true, true, false, false, false, false] rfl rfl (by kernel_rfl) (fun _ _ _ h => h) (Or.inl ⟨by rfl, ?_⟩) ?_ ?_
              rotate_left
              ·
               intro w'
               go_simp
               with_reducible rfl
              rotate_left
              ·
               simp only [Act.put, List.setIfInBounds_toArray, List.set_cons_zero, List.set_cons_succ, i64_w, i32_w]
               rfl
              refine pure_ (i := 2) (N := some 101) (v := ?_) (a' := ?_) #[true, true, true, false, false, false] rfl rfl (by kernel_rfl) (fun _ _ _ h => h) (Or.inl ⟨by rfl, ?_⟩) ?_ ?_
              rotate_left
              ·
               intro w'
               go_simp
               with_reducible rfl
              rotate_left
              ·
               simp only [Act.put, List.setIfInBounds_toArray, List.set_cons_zero, List.set_cons_succ, i64_w, i32_w]
               rfl
              refine take_ (i := 3) (N := some 102) (v := ?_) (a' := ?_) #[true, true, true, true, false, false] rfl rfl (by kernel_rfl) (fun _ _ _ h => h) (Or.inl ⟨by rfl, ?_⟩) hHeld ?_ ?_
              rotate_left
              ·
               rintro w' ⟨s0, s1, s2, s3, s4, s5, s6, s7, s8, s9⟩
               go_simp
               with_reducible rfl
              rotate_left
              ·
               simp only [Act.put, List.setIfInBounds_toArray, List.set_cons_zero, List.set_cons_succ, i64_w, i32_w]
               rfl
              refine take_ (i := 4) (N := some 103) (v := ?_) (a' := ?_) #[true, true, true, true, true, false] rfl rfl (by kernel_rfl) (fun _ _ _ h => h) (Or.inl ⟨by rfl, ?_⟩) hHeld ?_ ?_
              rotate_left
              ·
               rintro w' ⟨s0, s1, s2, s3, s4, s5, s6, s7, s8, s9⟩
               go_simp
               with_reducible rfl
              rotate_left
              ·
               simp only [Act.put, List.setIfInBounds_toArray, List.set_cons_zero, List.set_cons_succ, i64_w, i32_w]
               rfl
              refine pure_ (i := 5) (N := some 104) (v := ?_) (a' := ?_) #[true, true, true, true, true, true] rfl rfl (by kernel_rfl) (fun _ _ _ h => h) (Or.inl ⟨by rfl, ?_⟩) ?_ ?_
              rotate_left
              ·
               intro w'
               go_simp
               with_reducible rfl
              rotate_left
              ·
               simp only [Act.put, List.setIfInBounds_toArray, List.set_cons_zero, List.set_cons_succ, i64_w, i32_w]
               rfl
              refine done_ (by kernel_rfl) ?_
              try go_wp2
              have n0_ := Aside0.mk (Kd.R_drew HO_9.out)
              have n1_ := Aside0.mk (blk_drew BK550.out)
              have n2_ := Aside0.mk (below_drew1 HB.out)
              clear HO_9
              clear BK550
              clear HB
              have HO_9 := n0_
              have BK550 := n1_
              have HB := n2_
              clear n0_ n1_ n2_
              have p569 : 0 ≤ (x12_2 : Int) := of_decide_eq_true (by first | (with_reducible assumption) | assumption)
              have q569 : x12_2 < (t564.length : Int) := of_decide_eq_true (by first | (with_reducible assumption) | assumption)
              obtain ⟨ad569, e569, hx569_0, hx569_1, hx569_2, hx569_3, hx569_4⟩ := at_T37 (Kd.R_reads' HO_9.out).2.2 x12_2 p569 q569
              obtain rfl : ad567 = ad569 := (by injection e569)
              replace p569 := eq_true p569
              replace q569 := eq_true q569
              refine start_ (n := 12) (S := fun w' => w'.cell? ⟨gb550, 0, none⟩ = some (.int .i64 t545) ∧ w'.cell? ⟨gb550, 1, none⟩ = some (.int .i64 t546) ∧ w'.cell? ⟨gb550, 2, none⟩ = some (.int .i64 t547) ∧ w'.cell? ⟨gb550, 3, none⟩ = some (.int .i64 t548) ∧ w'.cell? ⟨gb550, 4, none⟩ = some (.int .i64 t549) ∧ w'.cell? (ad567.add ((x12_2).toNat * 5)) = some (.int .i64 ((rd_T37 t564 x12_2).f0)) ∧ w'.cell? ⟨(ad567.add ((x12_2).toNat * 5)).block, (ad567.add ((x12_2).toNat * 5)).off + 1, none⟩ = some (.int .i64 ((rd_T37 t564 x12_2).f1)) ∧ w'.cell? ⟨(ad567.add ((x12_2).toNat * 5)).block, (ad567.add ((x12_2).toNat * 5)).off + 2, none⟩ = some (.int .i64 ((rd_T37 t564 x12_2).f2)) ∧ w'.cell? ⟨(ad567.add ((x12_2).toNat * 5)).block, (ad567.add ((x12_2).toNat * 5)).off + 3, none⟩ = some (.int .i64 ((rd_T37 t564 x12_2).f3)) ∧ w'.cell? ⟨(ad567.add ((x12_2).toNat * 5)).block, (ad567.add ((x12_2).toNat * 5)).off + 4, none⟩ = some (.int .i64 ((rd_T37 t564 x12_2).f4))) (ds := []) #[false, false, false, false, false, false, false, false, false, false, false, false] (by kernel_rfl) rfl rfl ⟨(blk_cell BK550.out 0).trans rfl, (blk_cell BK550.out 1).trans rfl, (blk_cell BK550.out 2).trans rfl, (blk_cell BK550.out 3).trans rfl, (blk_cell BK550.out 4).trans rfl, hx569_0, hx569_1, hx569_2, hx569_3, hx569_4⟩ (fun hHeld => ?_); refine with_tabW laws_FnOpened.tab21 laws_FnOpened.bits21 (fun HT_ HW_ => ?_)
              generalize w66.drew = w67 at HO_9 BK550 HB hx569_0 hx569_1 hx569_2 hx569_3 hx569_4 hHeld ⊢
              refine pure_ (i := 0) (N := some 106) (v := ?_) (a' := ?_) #[true, false, false, false, false, false, false, false, false, false, false, false] rfl rfl (any_of HT_.out (by kernel_rfl)) (fun _ _ _ h => h) (Or.inl ⟨by rfl, ?_⟩) ?_ ?_
              rotate_left
              ·
               intro w'
               go_simp
               with_reducible rfl
              rotate_left
              ·
               simp only [Act.put, List.setIfInBounds_toArray, List.set_cons_zero, List.set_cons_succ, i64_w, i32_w]
               rfl
              refine pure_ (i := 1) (N := some 107) (v := ?_) (a' := ?_) #[true, true, false, false, false, false, false, false, false, false, false, false] rfl rfl (any_of HT_.out (by kernel_rfl)) (fun _ _ _ h => h) (Or.inl ⟨by rfl, ?_⟩) ?_ ?_
              rotate_left
              ·
               intro w'
               go_simp
               with_reducible rfl
              rotate_left
              ·
               simp only [Act.put, List.setIfInBounds_toArray, List.set_cons_zero, List.set_cons_succ, i64_w, i32_w]
               rfl
              refine pure_ (i := 2) (N := some 108) (v := ?_) (a' := ?_) #[true, true, true, false, false, false, false, false, false, false, false, false] rfl rfl (any_of HT_.out (by kernel_rfl)) (fun _ _ _ h => h) (Or.inl ⟨by rfl, ?_⟩) ?_ ?_
              rotate_left
              ·
               intro w'
               go_simp
               with_reducible rfl
              rotate_left
              ·
               simp only [Act.put, List.setIfInBounds_toArray, List.set_cons_zero, List.set_cons_succ, i64_w, i32_w]
               rfl
              refine pure_ (i := 3) (N := some 109) (v := ?_) (a' := ?_) #[true, true, true, true, false, false, false, false, false, false, false, false] rfl rfl (any_of HT_.out (by kernel_rfl)) (fun _ _ _ h => h) (Or.inl ⟨by rfl, ?_⟩) ?_ ?_
              rotate_left
              ·
               intro w'
               go_simp
               with_reducible rfl
              rotate_left
              ·
               simp only [Act.put, List.setIfInBounds_toArray, List.set_cons_zero, List.set_cons_succ, i64_w, i32_w]
               rfl
              refine pure_ (i := 5) (N := some 111) (v := ?_) (a' := ?_) #[true, true, true, true, false, true, false, false, false, false, false, false] rfl rfl (any_of HT_.out (by kernel_rfl)) (fun _ _ _ h => h) (Or.inl ⟨by rfl, ?_⟩) ?_ ?_
              rotate_left
              ·
               intro w'
               go_simp
               with_reducible rfl
              rotate_left
              ·
               simp only [Act.put, List.setIfInBounds_toArray, List.set_cons_zero, List.set_cons_succ, i64_w, i32_w]
               rfl
              refine take_ (i := 4) (N := some 110) (v := ?_) (a' := ?_) #[true, true, true, true, true, true, false, false, false, false, false, false] rfl rfl (take_ofW HT_.out HW_.out (by kernel_rfl)) (fun _ _ _ h => h) (Or.inl ⟨by rfl, ?_⟩) hHeld ?_ ?_
              rotate_left
              ·
               rintro w' ⟨s0, s1, s2, s3, s4, s5, s6, s7, s8, s9⟩
               go_simp
               with_reducible rfl
              rotate_left
              ·
               simp only [Act.put, List.setIfInBounds_toArray, List.set_cons_zero, List.set_cons_succ, i64_w, i32_w]
               rfl
              refine take_ (i := 6) (N := some 112) (v := ?_) (a' := ?_) #[true, true, true, true, true, true, true, false, false, false, false, false] rfl rfl (take_ofW HT_.out HW_.out (by kernel_rfl)) (fun _ _ _ h => h) (Or.inl ⟨by rfl, ?_⟩) hHeld ?_ ?_
              rotate_left
              ·
               rintro w' ⟨s0, s1, s2, s3, s4, s5, s6, s7, s8, s9⟩
               go_simp
               with_reducible rfl
              rotate_left
              ·
               simp only [Act.put, List.setIfInBounds_toArray, List.set_cons_zero, List.set_cons_succ, i64_w, i32_w]
               rfl
              refine pure_ (i := 7) (N := some 113) (v := ?_) (a' := ?_) #[true, true, true, true, true, true, true, true, false, false, false, false] rfl rfl (any_of HT_.out (by kernel_rfl)) (fun _ _ _ h => h) (Or.inl ⟨by rfl, ?_⟩) ?_ ?_
              rotate_left
              ·
               intro w'
               go_simp
               with_reducible rfl
              rotate_left
              ·
               simp only [Act.put, List.setIfInBounds_toArray, List.set_cons_zero, List.set_cons_succ, i64_w, i32_w]
               rfl
              refine pure_ (i := 8) (N := some 114) (v := ?_) (a' := ?_) #[true, true, true, true, true, true, true, true, true, false, false, false] rfl rfl (any_of HT_.out (by kernel_rfl)) (fun _ _ _ h => h) (Or.inl ⟨by rfl, ?_⟩) ?_ ?_
              rotate_left
              ·
               intro w'
               go_simp
               with_reducible rfl
              rotate_left
              ·
               simp only [Act.put, List.setIfInBounds_toArray, List.set_cons_zero, List.set_cons_succ, i64_w, i32_w]
               rfl
              refine pure_ (i := 9) (N := some 115) (v := undef) (a' := ?_) #[true, true, true, true, true, true, true, true, true, true, false, false] rfl rfl (any_of HT_.out (by kernel_rfl)) (fun _ _ _ h => h) (Or.inr ⟨by rfl, rfl⟩) ?_ ?_
              rotate_left
              ·
               simp only [Act.put, List.setIfInBounds_toArray, List.set_cons_zero, List.set_cons_succ, i64_w, i32_w]
               rfl
              refine pure_ (i := 10) (N := some 116) (v := undef) (a' := ?_) #[true, true, true, true, true, true, true, true, true, true, true, false] rfl rfl (any_of HT_.out (by kernel_rfl)) (fun _ _ _ h => h) (Or.inr ⟨by rfl, rfl⟩) ?_ ?_
              rotate_left
              ·
               simp only [Act.put, List.setIfInBounds_toArray, List.set_cons_zero, List.set_cons_succ, i64_w, i32_w]
               rfl
              refine pure_ (i := 11) (N := some 117) (v := ?_) (a' := ?_) #[true, true, true, true, true, true, true, true, true, true, true, true] rfl rfl (any_of HT_.out (by kernel_rfl)) (fun _ _ _ h => h) (Or.inl ⟨by rfl, ?_⟩) ?_ ?_
              rotate_left
              ·
               intro w'
               go_simp
               with_reducible rfl
              rotate_left
              ·
               simp only [Act.put, List.setIfInBounds_toArray, List.set_cons_zero, List.set_cons_succ, i64_w, i32_w]
               rfl
              refine done_ (done_of HT_.out (by kernel_rfl)) ?_
              try go_wp2
              go_roundg k2
              case measure => have := HJ17.out; have := HK2.out; omega
              case rel => exact ⟨(x10_2), (x11_2), (wrap64 (x12_2 + 1)), (by first | rfl | (simp; done) | (simp [*]; done)), (by first | rfl | (simp; done) | (simp [*]; done)), (by first | rfl | (simp; done) | (simp [*]; done)), H', ⟨by have := HJ17.out; have := HK2.out; omega⟩, ⟨by (with_reducible repeat (first | apply Kd.R_alloc | apply Kd.R_drewN | apply Kd.R_drew)); exact HO_9.out⟩, ⟨by (with_reducible repeat (first | refine blk_drewN ?_ _ | refine blk_drew ?_ | refine blk_alloc ?_ _)); exact BK550.out⟩, ⟨bg_ GE550.out⟩⟩
           ·
            rw [if_neg c44] at H
            exact absurd H (by simp)
          ·
           rw [if_neg c43] at H
           have c43b0 : decide (x12_2 < (t564.length : Int)) = false := decide_eq_false c43
           clear c43
           by_cases c68 : x10_2 ≥ 0
           ·
            rw [if_pos c68] at H
            have c68b0 : decide (0 ≤ x10_2) = true := decide_eq_true c68
            clear c68
            by_cases c69 : x11_2 < 0
            ·
             rw [if_pos c69] at H
             have c69b0 : decide (x11_2 < 0) = true := decide_eq_true c69
             clear c69
             obtain rfl := Option.some.inj H
             obtain ⟨Ao70, co70, eo70⟩ := Kd.R_slice HO_9.out
             subst eo70
             go_wp2
             go_ret
             exact ⟨by first | rfl | (simp [errW_none, errW_some] <;> rfl) | (simp [*, errW_none, errW_some] <;> rfl), bg_ GE550.out⟩
            ·
             rw [if_neg c69] at H
             have c69b0 : decide (x11_2 < 0) = false := decide_eq_false c69
             clear c69
             obtain rfl := Option.some.inj H
             obtain ⟨Ao71, co71, eo71⟩ := Kd.R_slice HO_9.out
             subst eo71
             go_wp2
             go_ret
             exact ⟨by first | rfl | (simp [errW_none, errW_some] <;> rfl) | (simp [*, errW_none, errW_some] <;> rfl), bg_ GE550.out⟩
           ·
            rw [if_neg c68] at H
            exact absurd H (by simp)
    ·
     rw [if_neg c17] at H
     have c17b0 : (t554 == 0) = false := beq_eq_false_iff_ne.mpr c17
     have c17b1 : (t554 != 0) = true := bne_iff_ne.mpr c17
     replace H := Option.bind_eq_some_iff.mp H
     obtain ⟨t559, A720, H⟩ := H
     replace H : (some t559) = some r := H
     have A72 := Aside0.mk A720
     clear A720
     obtain rfl := Option.some.inj H
     go_enter Try.func8, Try.ntmps8
     go_wp2_with (first | ((with_reducible refine gate_callee (f := 30) rfl ?_); refine goesL_ (some 14) rfl rfl Try.func30 (by kernel_rfl) rfl #[.slice A0 l0.length c0] rfl (bc_) ?_; (with_reducible refine (laws_big.calls _ _ l0 false _ ?side1 ?side2 A2.out).mono ?_); (case side1 => repeat (first | exact HR0.out | (with_reducible refine Kd.C_alloc ?_ _) | (with_reducible refine Kd.C_drewN ?_ _) | (with_reducible refine Kd.C_drew ?_))); (case side2 => exact HC0.out); rintro e w' ⟨rfl, ⟨nd, rfl⟩⟩; refine ⟨_, rfl, ?_⟩) | ((with_reducible refine gate_callee (f := 31) rfl ?_); refine goesL_ (some 17) rfl rfl Try.func31 (by kernel_rfl) rfl #[.slice A0 l0.length c0] rfl (bc_) ?_; (with_reducible refine (spec_DrawLotOpen.calls k _ _ l0 t542 t545 t546 t547 t548 t549 _ ?side1 ?side2 A4.out).mono ?_); (case side1 => repeat (first | exact HR0.out | (with_reducible refine Kd.C_alloc ?_ _) | (with_reducible refine Kd.C_drewN ?_ _) | (with_reducible refine Kd.C_drew ?_))); (case side2 => exact HC0.out); rintro e w73 ⟨v543, rfl, ho0, hb⟩; refine ⟨_, rfl, ?_⟩; have n0_ := Aside0.mk (Kd.R_lower ho0 (below_size (bb_))); have n1_ := Aside0.mk (below_step (bb_) hb); clear HB; have HO544 := n0_; have HB := n1_; clear n0_ n1_; (try clear hb); (try clear hb2); (try clear hk); (try clear hi); (try clear ho0)) | ((with_reducible refine gate_dst (N := 4) rfl ?_); (try (refine gate_guard (by rfl) ?_; dsimp only)); refine box_event ?hg (N := 4) ?hd (cs := #[.int .i64 0, .int .i64 0, .int .i64 0, .int .i64 0, .int .i64 0]) (t := 37) ?hr ?_; (case hd => rfl); (case hg => rfl); (case hr => first | (go_simp; done) | (go_simp; rfl)); intro gb550 hg w74 hbox hb; have n0_ := Aside0.mk (Kd.R_below (Kd.R_elderB (pe_ HO544.out) gb550 (Nat.le_of_eq hg.symm)) hb); have n1_ := Aside0.mk (below_step (bb_) hb); have n2_ := Aside0.mk (hbox); have n3_ := Aside0.mk ((by rw [hg]; exact (below_size (bb_)) : w.heap.size ≤ gb550)); have n4_ := Aside0.mk ((by rw [hg]; exact (below_size (bb_)) : w.heap.size ≤ gb550)); clear HO544; clear HB; have HO544 := n0_; have HB := n1_; have BK550 := n2_; have GW550 := n3_; have GE550 := n4_; clear n0_ n1_ n2_ n3_ n4_; clear hb hbox hg; have hcz75_0 : w74.cell? ⟨gb550, 0, none⟩ = some (.int .i64 0) := (blk_cell BK550.out 0).trans rfl; have hcz75_1 : w74.cell? ⟨gb550, 1, none⟩ = some (.int .i64 0) := (blk_cell BK550.out 1).trans rfl; have hcz75_2 : w74.cell? ⟨gb550, 2, none⟩ = some (.int .i64 0) := (blk_cell BK550.out 2).trans rfl; have hcz75_3 : w74.cell? ⟨gb550, 3, none⟩ = some (.int .i64 0) := (blk_cell BK550.out 3).trans rfl; have hcz75_4 : w74.cell? ⟨gb550, 4, none⟩ = some (.int .i64 0) := (blk_cell BK550.out 4).trans rfl; have hfz75_0 := blk_frozen BK550.out 0; have hfz75_1 := blk_frozen BK550.out 1; have hfz75_2 := blk_frozen BK550.out 2; have hfz75_3 := blk_frozen BK550.out 3; have hfz75_4 := blk_frozen BK550.out 4; obtain ⟨Ao76, co76, eo76⟩ := Kd.R_slice HO544.out; subst eo76) | ((with_reducible refine gate_callee (f := 29) rfl ?_); refine goesL_ (some 23) rfl rfl Try.func29 (by kernel_rfl) rfl #[.slice Ao76 t542.length co76, .agg #[.int .i64 t545, .int .i64 t546, .int .i64 t547, .int .i64 t548, .int .i64 t549]] rfl (bc_) ?_; (with_reducible refine (impl_LotOpen.calls k _ _ t542 t545 t546 t547 t548 t549 t551 t554 _ ?side1 ?side2 A5.out).mono ?_); (case side1 => refine (Kd.R_reads' (e := 37) (base := w.heap.size) (ok := fun k_ => (True ∧ k_ ≠ gb550)) (n := t542.length) (c := co76) ?_).2.2; exact (by (with_reducible repeat (first | apply Kd.R_alloc | apply Kd.R_drewN | apply Kd.R_drew)); exact (Kd.R_mono (Kd.R_far (p := ⟨gb550, 4, none⟩) (Kd.R_far (p := ⟨gb550, 3, none⟩) (Kd.R_far (p := ⟨gb550, 2, none⟩) (Kd.R_far (p := ⟨gb550, 1, none⟩) (Kd.R_far (p := ⟨gb550, 0, none⟩) (Kd.R_mono HO544.out (fun k_ hk => (⟨hk, hk.2⟩ : _ ∧ k_ ≠ gb550))) (fun _ hk => hk.2) (.int .i64 t545)) (fun _ hk => hk.2) (.int .i64 t546)) (fun _ hk => hk.2) (.int .i64 t547)) (fun _ hk => hk.2) (.int .i64 t548)) (fun _ hk => hk.2) (.int .i64 t549)) (fun _ h_ => h_.1)))); (case side2 => exact (Kd.R_reads' HO544.out).2.1); rintro e w77 ⟨v552, rfl, ho0, hb⟩; refine ⟨_, rfl, ?_⟩; have n0_ := Aside0.mk (Kd.R_elder' (by (with_reducible repeat (first | apply Kd.R_alloc | apply Kd.R_drewN | apply Kd.R_drew)); exact (Kd.R_mono (Kd.R_far (p := ⟨gb550, 4, none⟩) (Kd.R_far (p := ⟨gb550, 3, none⟩) (Kd.R_far (p := ⟨gb550, 2, none⟩) (Kd.R_far (p := ⟨gb550, 1, none⟩) (Kd.R_far (p := ⟨gb550, 0, none⟩) (Kd.R_mono HO544.out (fun k_ hk => (⟨hk, hk.2⟩ : _ ∧ k_ ≠ gb550))) (fun _ hk => hk.2) (.int .i64 t545)) (fun _ hk => hk.2) (.int .i64 t546)) (fun _ hk => hk.2) (.int .i64 t547)) (fun _ hk => hk.2) (.int .i64 t548)) (fun _ hk => hk.2) (.int .i64 t549)) (fun _ h_ => h_.1))) (Kd.R_base ho0) hb); have n1_ := Aside0.mk (Kd.R_lower (Kd.R_newB (Kd.R_new' ho0 (Kd.R_lt (by (with_reducible repeat (first | apply Kd.R_alloc | apply Kd.R_drewN | apply Kd.R_drew)); exact (Kd.R_mono (Kd.R_far (p := ⟨gb550, 4, none⟩) (Kd.R_far (p := ⟨gb550, 3, none⟩) (Kd.R_far (p := ⟨gb550, 2, none⟩) (Kd.R_far (p := ⟨gb550, 1, none⟩) (Kd.R_far (p := ⟨gb550, 0, none⟩) (Kd.R_mono HO544.out (fun k_ hk => (⟨hk, hk.2⟩ : _ ∧ k_ ≠ gb550))) (fun _ hk => hk.2) (.int .i64 t545)) (fun _ hk => hk.2) (.int .i64 t546)) (fun _ hk => hk.2) (.int .i64 t547)) (fun _ hk => hk.2) (.int .i64 t548)) (fun _ hk => hk.2) (.int .i64 t549)) (fun _ h_ => h_.1))))) (g := gb550) (o := .cells #[.int .i64 t545, .int .i64 t546, .int .i64 t547, .int .i64 t548, .int .i64 t549] 37 (0, 0)) (by (with_reducible repeat (first | refine blk_drewN ?_ _ | refine blk_drew ?_ | refine blk_alloc ?_ _)); refine blk_put (cs := #[.int .i64 t545, .int .i64 t546, .int .i64 t547, .int .i64 t548, .int .i64 0]) ?_ 4 _ rfl; (with_reducible repeat (first | refine blk_drewN ?_ _ | refine blk_drew ?_ | refine blk_alloc ?_ _)); refine blk_put (cs := #[.int .i64 t545, .int .i64 t546, .int .i64 t547, .int .i64 0, .int .i64 0]) ?_ 3 _ rfl; (with_reducible repeat (first | refine blk_drewN ?_ _ | refine blk_drew ?_ | refine blk_alloc ?_ _)); refine blk_put (cs := #[.int .i64 t545, .int .i64 t546, .int .i64 0, .int .i64 0, .int .i64 0]) ?_ 2 _ rfl; (with_reducible repeat (first | refine blk_drewN ?_ _ | refine blk_drew ?_ | refine blk_alloc ?_ _)); refine blk_put (cs := #[.int .i64 t545, .int .i64 0, .int .i64 0, .int .i64 0, .int .i64 0]) ?_ 1 _ rfl; (with_reducible repeat (first | refine blk_drewN ?_ _ | refine blk_drew ?_ | refine blk_alloc ?_ _)); refine blk_put (cs := #[.int .i64 0, .int .i64 0, .int .i64 0, .int .i64 0, .int .i64 0]) ?_ 0 _ rfl; (with_reducible repeat (first | refine blk_drewN ?_ _ | refine blk_drew ?_ | refine blk_alloc ?_ _)); exact BK550.out)) (below_size (bg_ GE550.out))); have n2_ := Aside0.mk (blk_below (g := gb550) (o := .cells #[.int .i64 t545, .int .i64 t546, .int .i64 t547, .int .i64 t548, .int .i64 t549] 37 (0, 0)) (by (with_reducible repeat (first | refine blk_drewN ?_ _ | refine blk_drew ?_ | refine blk_alloc ?_ _)); refine blk_put (cs := #[.int .i64 t545, .int .i64 t546, .int .i64 t547, .int .i64 t548, .int .i64 0]) ?_ 4 _ rfl; (with_reducible repeat (first | refine blk_drewN ?_ _ | refine blk_drew ?_ | refine blk_alloc ?_ _)); refine blk_put (cs := #[.int .i64 t545, .int .i64 t546, .int .i64 t547, .int .i64 0, .int .i64 0]) ?_ 3 _ rfl; (with_reducible repeat (first | refine blk_drewN ?_ _ | refine blk_drew ?_ | refine blk_alloc ?_ _)); refine blk_put (cs := #[.int .i64 t545, .int .i64 t546, .int .i64 0, .int .i64 0, .int .i64 0]) ?_ 2 _ rfl; (with_reducible repeat (first | refine blk_drewN ?_ _ | refine blk_drew ?_ | refine blk_alloc ?_ _)); refine blk_put (cs := #[.int .i64 t545, .int .i64 0, .int .i64 0, .int .i64 0, .int .i64 0]) ?_ 1 _ rfl; (with_reducible repeat (first | refine blk_drewN ?_ _ | refine blk_drew ?_ | refine blk_alloc ?_ _)); refine blk_put (cs := #[.int .i64 0, .int .i64 0, .int .i64 0, .int .i64 0, .int .i64 0]) ?_ 0 _ rfl; (with_reducible repeat (first | refine blk_drewN ?_ _ | refine blk_drew ?_ | refine blk_alloc ?_ _)); exact BK550.out) hb); have n3_ := Aside0.mk (below_step (bg_ GE550.out) hb); clear HO544; clear BK550; clear HB; have HO544 := n0_; have HO553 := n1_; have BK550 := n2_; have HB := n3_; clear n0_ n1_ n2_ n3_; (try clear hb); (try clear hb2); (try clear hk); (try clear hi); (try clear ho0); have hcz78_0 : w77.cell? ⟨gb550, 0, none⟩ = some (.int .i64 t545) := (blk_cell BK550.out 0).trans rfl; have hcz78_1 : w77.cell? ⟨gb550, 1, none⟩ = some (.int .i64 t546) := (blk_cell BK550.out 1).trans rfl; have hcz78_2 : w77.cell? ⟨gb550, 2, none⟩ = some (.int .i64 t547) := (blk_cell BK550.out 2).trans rfl; have hcz78_3 : w77.cell? ⟨gb550, 3, none⟩ = some (.int .i64 t548) := (blk_cell BK550.out 3).trans rfl; have hcz78_4 : w77.cell? ⟨gb550, 4, none⟩ = some (.int .i64 t549) := (blk_cell BK550.out 4).trans rfl; have hfz78_0 := blk_frozen BK550.out 0; have hfz78_1 := blk_frozen BK550.out 1; have hfz78_2 := blk_frozen BK550.out 2; have hfz78_3 := blk_frozen BK550.out 3; have hfz78_4 := blk_frozen BK550.out 4) | ((with_reducible refine gate_callee (f := 27) rfl ?_); refine goesL_ (some 29) rfl rfl Try.func27 (by kernel_rfl) rfl #[.slice Ao76 t542.length co76, .agg #[.int .i64 t545, .int .i64 t546, .int .i64 t547, .int .i64 t548, .int .i64 t549]] rfl (bc_) ?_; (with_reducible refine (spec_LotOpen.calls k _ _ t542 t545 t546 t547 t548 t549 t555 t558 _ ?side1 ?side2 A6.out).mono ?_); (case side1 => repeat (first | exact (Kd.R_reads' HO544.out).2.2 | (with_reducible refine Kd.C_alloc ?_ _) | (with_reducible refine Kd.C_drewN ?_ _) | (with_reducible refine Kd.C_drew ?_))); (case side2 => exact (Kd.R_reads' HO544.out).2.1); rintro e w79 ⟨v556, rfl, ho0, hb⟩; refine ⟨_, rfl, ?_⟩; have n0_ := Aside0.mk (Kd.R_elder' (pe_ HO544.out) (Kd.R_base ho0) hb); have n1_ := Aside0.mk (Kd.R_elder' (pe_ HO553.out) (Kd.R_base ho0) hb); have n2_ := Aside0.mk (Kd.R_lower (Kd.R_newB (Kd.R_new' (Kd.R_new' ho0 (Kd.R_lt (pe_ HO544.out))) (Kd.R_lt (pe_ HO553.out))) (g := gb550) (o := .cells #[.int .i64 t545, .int .i64 t546, .int .i64 t547, .int .i64 t548, .int .i64 t549] 37 (0, 0)) (pb_ BK550.out)) (below_size (bg_ GE550.out))); have n3_ := Aside0.mk (blk_below (g := gb550) (o := .cells #[.int .i64 t545, .int .i64 t546, .int .i64 t547, .int .i64 t548, .int .i64 t549] 37 (0, 0)) (pb_ BK550.out) hb); have n4_ := Aside0.mk (below_step (bg_ GE550.out) hb); clear HO544; clear HO553; clear BK550; clear HB; have HO544 := n0_; have HO553 := n1_; have HO557 := n2_; have BK550 := n3_; have HB := n4_; clear n0_ n1_ n2_ n3_ n4_; (try clear hb); (try clear hb2); (try clear hk); (try clear hi); (try clear ho0); obtain ⟨Ao80, co80, eo80⟩ := Kd.R_slice HO553.out; subst eo80) | ((with_reducible refine gate_callee (f := 32) rfl ?_); refine goesL_ (some 44) rfl rfl Try.func32 (by kernel_rfl) rfl #[.slice Ao80 t551.length co80, .slice Ao76 t542.length co76] rfl (bc_) ?_; (with_reducible refine (laws_sameLots.calls k _ _ t551 _ _ t542 t559 _ ?side1 ?side2 ?side3 ?side4 A72.out).mono ?_); (case side1 => repeat (first | exact (Kd.R_reads' HO553.out).2.2 | (with_reducible refine Kd.C_alloc ?_ _) | (with_reducible refine Kd.C_drewN ?_ _) | (with_reducible refine Kd.C_drew ?_))); (case side2 => exact (Kd.R_reads' HO553.out).2.1); (case side3 => repeat (first | exact (Kd.R_reads' HO544.out).2.2 | (with_reducible refine Kd.C_alloc ?_ _) | (with_reducible refine Kd.C_drewN ?_ _) | (with_reducible refine Kd.C_drew ?_))); (case side4 => exact (Kd.R_reads' HO544.out).2.1); rintro e w' ⟨rfl, ⟨nd, rfl⟩⟩; refine ⟨_, rfl, ?_⟩))
     go_ret
     exact ⟨by first | rfl | (simp [errW_none, errW_some] <;> rfl) | (simp [*, errW_none, errW_some] <;> rfl), bg_ GE550.out⟩
  ·
   rw [if_neg c7] at H
   exact absurd H (by simp)
def laws_FnOpened.Pure : Prop := ∀ (l0 : List Int), l0.length ≤ maxLen → l0.length * 1 ≤ 140737488351232 → (∀ x ∈ l0, (Lit.int .u8 x).wf = true) → ∃ k, laws_FnOpened.f k l0 = some true
theorem laws_FnOpened.walk (P : laws_FnOpened.Pure) (a0 : Option Addr) (len0 cap0 : Nat) (z0 : List Int) (w : World) (w0 : (a0 = none ∧ len0 = 0 ∧ cap0 = 0 ∧ z0 = []) ∨ ∃ x, a0 = some x ∧ len0 ≤ cap0 ∧ cap0 ≤ maxLen ∧ z0.length = cap0 ∧ (∀ i, i < z0.length → w.cell? (x.add i) = some (.int .u8 (z0.getD i 0))) ∧ ∀ n ∈ z0, (Lit.int .u8 n).wf = true) (y0 : len0 * 1 ≤ 140737488351232) :
 Calls Try.prog 8 #[.slice a0 len0 cap0] w fun e w' => e = .returned (.bool true) ∧ Below w.heap.size w w' := by
 obtain ⟨l0, rfl, hr0, hm0, hw0, hc0⟩ := ReadsInt.ofRowC w0
 obtain ⟨k, h⟩ := P l0 hm0 y0 hw0
 refine (laws_FnOpened.calls k _ _ l0 true w (Kd.C_of_reads (d := (0 : Int)) (h1 := fun _ => rfl) hr0) hc0 h).mono ?_
 rintro e w' ⟨rfl, hd⟩
 exact ⟨rfl, hd⟩
end Go.Proofs.Ytomanpmffjkkgaa.P
namespace Go.Proofs.Ytomanpmffjkkgaa.EV
open Go Go.RowKit Go.Proofs.YtomanpmffjkkgaaW.PrintWords
theorem w64_in (n : Int) (h0 : -9223372036854775808 ≤ n) (h1 : n ≤ 9223372036854775807) : wrap64 n = n := by unfold wrap64; omega
theorem w_succ {i n : Nat} (h : i < n) (hn : n ≤ 9223372036854775807) : wrap64 ((i : Int) + 1) = ((i + 1 : Nat) : Int) := by unfold wrap64; omega
theorem w_pred {i n : Nat} (h : i < n) (hp : 0 < i) (hn : n ≤ 9223372036854775807) : wrap64 ((i : Int) - 1) = ((i - 1 : Nat) : Int) := by unfold wrap64; omega
theorem Ev_one {α : Type} {g : Nat → Option α} {r : α} (h : ∀ k, g (k + 1) = some r) : Ev g r := ⟨1, fun k hk => by
  obtain ⟨k, rfl⟩ : ∃ m, k = m + 1 := ⟨k - 1, by omega⟩
  exact h k⟩
theorem Ev_all_k {α : Type} {g : Nat → Option α} {r : α} (h : ∀ k, g k = some r) : Ev g r := ⟨0, fun k _ => h k⟩
theorem Ev_bind {α β : Type} {g : Nat → Option α} {f : Nat → α → Option β} {a : α} {r : β} (h : Ev g a) (k : Ev (fun n => f n a) r) : Ev (fun n => (g n).bind (f n)) r := Ev.bind h k
theorem Ev_goes {σ ρ : Type} (l : Nat → σ → Int → Option ρ) (n : Nat) (F : Nat → σ → ρ) (Inv : Nat → σ → Prop)
    (h0 : ∀ s, Inv n s → Ev (fun k => l k s (n : Int)) (F n s))
    (hs : ∀ (i : Nat) s, i < n → Inv i s → (Ev (fun k => l k s (i : Int)) (F i s)) ∨ ∃ s', Inv (i + 1) s' ∧ F (i + 1) s' = F i s ∧ ∀ k, l (k + 1) s (i : Int) = l k s' ((i + 1 : Nat) : Int)) :
    ∀ (d i : Nat) s, n - i = d → i ≤ n → Inv i s → Ev (fun k => l k s (i : Int)) (F i s) := by
  intro d
  induction d with
  | zero =>
    intro i s hd hi hinv
    obtain rfl : i = n := by omega
    exact h0 s hinv
  | succ d ih =>
    intro i s hd hi hinv
    rcases hs i s (by omega) hinv with h | ⟨s', h1, h2, h3⟩
    · exact h
    · exact h2 ▸ Ev.step h3 (ih (i + 1) s' (by omega) (by omega) h1)
theorem Ev_goes' {σ ρ : Type} (l : Nat → σ → Int → Option ρ) (n : Nat) (F : Nat → σ → ρ) (Inv : Nat → σ → Prop)
    (h0 : ∀ s, Inv n s → Ev (fun k => l k s (n : Int)) (F n s))
    (hs : ∀ (i : Nat) s, i < n → Inv i s → (Ev (fun k => l k s (i : Int)) (F i s)) ∨ ∃ s', Inv (i + 1) s' ∧ F (i + 1) s' = F i s ∧ ∀ r, Ev (fun k => l k s' ((i + 1 : Nat) : Int)) r → Ev (fun k => l k s (i : Int)) r) :
    ∀ (d i : Nat) s, n - i = d → i ≤ n → Inv i s → Ev (fun k => l k s (i : Int)) (F i s) := by
  intro d
  induction d with
  | zero =>
    intro i s hd hi hinv
    obtain rfl : i = n := by omega
    exact h0 s hinv
  | succ d ih =>
    intro i s hd hi hinv
    rcases hs i s (by omega) hinv with h | ⟨s', h1, h2, h3⟩
    · exact h
    · exact h2 ▸ h3 _ (ih (i + 1) s' (by omega) (by omega) h1)
theorem drop_getD {α : Type} (z : α) (l : List α) (i : Nat) (h : i < l.length) : l.drop i = l.getD i z :: l.drop (i + 1) := by
  rw [List.drop_eq_getElem_cons h, List.getD_eq_getElem?_getD, List.getElem?_eq_getElem h]
  rfl
end Go.Proofs.Ytomanpmffjkkgaa.EV
namespace Go.Proofs.Ytomanpmffjkkgaa.D1
open Go Go.RowKit Go.Proofs.Ytomanpmffjkkgaa.P Go.Proofs.YtomanpmffjkkgaaW.PrintWords Go.Proofs.YtomanpmffjkkgaaW.PrintLast Go.Proofs.Ytomanpmffjkkgaa.EV
theorem and255 (y : Int) : 0 ≤ Go.bits .and .i64 y 255 ∧ Go.bits .and .i64 y 255 ≤ 255 := by
  have h : (BitVec.ofInt IntKind.i64.bits y &&& BitVec.ofInt IntKind.i64.bits 255).toNat ≤ 255 := by
    rw [BitVec.toNat_and]
    exact Nat.le_trans Nat.and_le_right (by decide)
  simp only [Go.bits]
  generalize (BitVec.ofInt IntKind.i64.bits y &&& BitVec.ofInt IntKind.i64.bits 255).toNat = m at *
  rw [IntKind.wrap_i64]
  omega
def V (b : List Int) (i : Int) : Prop := 0 ≤ i ∧ i ≤ b.length ∧ b.length ≤ 140737488351232
theorem byte_ok (b : List Int) (i h : Int) (hv : V b i) : ∃ x i' h', spec_l1Byte.f b i h = some (x, i', h') ∧ 0 ≤ x ∧ x ≤ 255 ∧ V b i' := by
  obtain ⟨h0, h1, h2⟩ := hv
  unfold spec_l1Byte.f
  by_cases hi : i < (b.length : Int)
  · rw [if_pos hi, if_pos h0]
    refine ⟨_, _, _, rfl, (and255 _).1, (and255 _).2, ?_⟩
    rw [w64_in _ (by omega) (by omega)]
    exact ⟨by omega, by omega, h2⟩
  · rw [if_neg hi]
    exact ⟨_, _, _, rfl, (and255 _).1, (and255 _).2, h0, h1, h2⟩
theorem below_ok (b : List Int) (i h n : Int) (hv : V b i) (hn : n ≤ 4294967296) : ∃ x i' h', spec_l1Below.f b i h n = some (x, i', h') ∧ 0 ≤ x ∧ (0 < n → x < n) ∧ (n ≤ 0 → x = 0) ∧ V b i' := by
  unfold spec_l1Below.f
  by_cases h0 : n ≤ 0
  · rw [if_pos h0]
    exact ⟨_, _, _, rfl, by omega, fun h => by omega, fun _ => rfl, hv⟩
  · rw [if_neg h0]
    by_cases h1 : n ≤ 256
    · rw [if_pos h1]
      obtain ⟨x, i1, g1, e1, x0, x1, v1⟩ := byte_ok b i h hv
      rw [e1, Option.bind_some, if_neg (by omega)]
      refine ⟨_, _, _, rfl, ?_, fun _ => ?_, fun h => by omega, v1⟩
      · show 0 ≤ Int.tmod x n
        rw [Int.tmod_eq_emod_of_nonneg x0]
        exact Int.emod_nonneg _ (by omega)
      · show Int.tmod x n < n
        rw [Int.tmod_eq_emod_of_nonneg x0]
        exact Int.emod_lt_of_pos _ (by omega)
    · rw [if_neg h1]
      obtain ⟨x, i1, g1, e1, x0, x1, v1⟩ := byte_ok b i h hv
      rw [e1, Option.bind_some]
      obtain ⟨y, i2, g2, e2, y0, y1, v2⟩ := byte_ok b i1 g1 v1
      simp only [e2, Option.bind_some]
      obtain ⟨z, i3, g3, e3, z0, z1, v3⟩ := byte_ok b i2 g2 v2
      simp only [e3, Option.bind_some]
      obtain ⟨u, i4, g4, e4, u0, u1, v4⟩ := byte_ok b i3 g3 v3
      simp only [e4, Option.bind_some]
      rw [if_neg (by omega), w64_in (x * 16777216) (by omega) (by omega), w64_in (y * 65536) (by omega) (by omega), w64_in (z * 256) (by omega) (by omega),
        w64_in (x * 16777216 + y * 65536) (by omega) (by omega), w64_in (x * 16777216 + y * 65536 + z * 256) (by omega) (by omega), w64_in (x * 16777216 + y * 65536 + z * 256 + u) (by omega) (by omega)]
      refine ⟨_, _, _, rfl, ?_, fun _ => ?_, fun h => by omega, v4⟩
      · rw [Int.tmod_eq_emod_of_nonneg (by omega)]
        exact Int.emod_nonneg _ (by omega)
      · rw [Int.tmod_eq_emod_of_nonneg (by omega)]
        exact Int.emod_lt_of_pos _ (by omega)
theorem new_ok (l : List Int) (hl : l.length ≤ 140737488351232) : ∃ h, Ev (fun k => spec_l1New.f k l) (l, 0, h) := by
  have key : ∀ (d : Nat) (i : Nat) (h : Int), l.length - i = d → i ≤ l.length → ∃ h', Ev (fun k => spec_l1New.l0 k l h (i : Int)) (l, 0, h') := by
    intro d
    induction d with
    | zero =>
      intro i h hd hi
      exact ⟨h, Ev_one fun k => by simp only [spec_l1New.l0]; rw [if_neg (by omega)]⟩
    | succ d ih =>
      intro i h hd hi
      by_cases h4 : (i : Int) < 4000
      · obtain ⟨h', hr⟩ := ih (i + 1) (Go.bits .and .i64 (wrap64 ((wrap64 ((wrap64 (h * 131)) + (wrap64 (rd l (i : Int))))) + 7)) 1073741823) (by omega) (by omega)
        refine ⟨h', Ev.step (fun k => ?_) hr⟩
        simp only [spec_l1New.l0]
        rw [if_pos (by omega), if_pos h4, if_pos (by omega), w_succ (i := i) (n := l.length) (by omega) (by omega)]
      · exact ⟨h, Ev_one fun k => by simp only [spec_l1New.l0]; rw [if_pos (by omega), if_neg h4]⟩
  obtain ⟨h', hr⟩ := key l.length 0 (wrap64 (11029 + (l.length : Int))) (by omega) (by omega)
  exact ⟨h', Ev.congr (fun k => rfl) hr⟩
theorem once_ok (b : List Int) (i h n : Int) (hv : V b i) (hn : n ≤ 4294967296) : ∃ x i' h', spec_l1Once.f b i h n = some (x, i', h') ∧ V b i' := by
  unfold spec_l1Once.f
  obtain ⟨x, i1, g1, e1, _, _, _, v1⟩ := below_ok b i h n hv hn
  rw [e1]
  exact ⟨_, _, _, rfl, v1⟩
theorem pick_ok (b : List Int) (i h : Int) (l : List Int) (hv : V b i) (h0 : 0 < l.length) (hn : l.length ≤ 4294967296) : ∃ x i' h', spec_l1PickInt.f b i h l = some (x, i', h') ∧ x ∈ l ∧ V b i' := by
  unfold spec_l1PickInt.f
  obtain ⟨x, i1, g1, e1, x0, x1, _, v1⟩ := below_ok b i h l.length hv (by omega)
  have x2 := x1 (by omega)
  rw [e1, Option.bind_some, if_pos x0, if_pos x2]
  refine ⟨_, _, _, rfl, ?_, v1⟩
  show rd l x ∈ l
  unfold rd
  rw [List.getD_eq_getElem?_getD, List.getElem?_eq_getElem (by omega)]
  exact List.getElem_mem _
end Go.Proofs.Ytomanpmffjkkgaa.D1
namespace Go.Proofs.Ytomanpmffjkkgaa.I1
open Go Go.RowKit Go.Proofs.Ytomanpmffjkkgaa.P Go.Proofs.YtomanpmffjkkgaaW.PrintWords Go.Proofs.YtomanpmffjkkgaaW.PrintLast
theorem in_s (a lo hi : Int) : spec_l1In.f a lo hi = some (decide (lo ≤ a ∧ a ≤ hi)) := by
  unfold spec_l1In.f
  by_cases h : a ≥ lo
  · rw [if_pos h]
    congr 1
    rw [Bool.eq_iff_iff, decide_eq_true_iff, decide_eq_true_iff]
    omega
  · rw [if_neg h]
    congr 1
    symm
    rw [decide_eq_false_iff_not]
    omega
end Go.Proofs.Ytomanpmffjkkgaa.I1
namespace Go.Proofs.Ytomanpmffjkkgaa.N1
open Go Go.RowKit Go.Proofs.Ytomanpmffjkkgaa.P Go.Proofs.YtomanpmffjkkgaaW.PrintWords Go.Proofs.YtomanpmffjkkgaaW.PrintLast Go.Proofs.Ytomanpmffjkkgaa.EV Go.Proofs.Ytomanpmffjkkgaa.I1
def No (a : Int) : Prop := 1 ≤ a ∧ a ≤ 1000
def Amt (a : Int) : Prop := -1000000000000000 ≤ a ∧ a ≤ 1000000000000000
instance (a : Int) : Decidable (No a) := by unfold No; exact inferInstance
instance (a : Int) : Decidable (Amt a) := by unfold Amt; exact inferInstance
theorem no_s (a : Int) : spec_l3No.f a = some (decide (No a)) := by unfold spec_l3No.f; rw [in_s]; rfl
theorem amt_s (a : Int) : spec_AmountOk.f a = some (decide (Amt a)) := by unfold spec_AmountOk.f; rw [in_s]; rfl
end Go.Proofs.Ytomanpmffjkkgaa.N1
namespace Go.Proofs.Ytomanpmffjkkgaa.E1
open Go Go.RowKit Go.Proofs.Ytomanpmffjkkgaa.P Go.Proofs.YtomanpmffjkkgaaW.PrintWords Go.Proofs.YtomanpmffjkkgaaW.PrintLast Go.Proofs.Ytomanpmffjkkgaa.EV Go.Proofs.Ytomanpmffjkkgaa.I1 Go.Proofs.Ytomanpmffjkkgaa.N1
abbrev SL := S37
theorem rdL (l : List SL) (i : Nat) : rd_T37 l (i : Int) = l.getD i z37 := by unfold rd_T37; rw [Int.toNat_natCast]
def Form (x : SL) : Prop := No x.f0 ∧ No x.f1 ∧ (1 ≤ x.f2 ∧ x.f2 ≤ 1000000000) ∧ (1 ≤ x.f3 ∧ x.f3 ≤ 1000000000000000) ∧ 0 ≤ x.f4 ∧ x.f4 ≤ 1000000000000000
instance (x : SL) : Decidable (Form x) := by unfold Form No; exact inferInstance
def Lt (x y : SL) : Prop := x.f0 < y.f0 ∨ (x.f0 = y.f0 ∧ (x.f1 < y.f1 ∨ (x.f1 = y.f1 ∧ x.f2 < y.f2)))
instance (x y : SL) : Decidable (Lt x y) := by unfold Lt; exact inferInstance
theorem Lt.trans {x y z : SL} (h : Lt x y) (g : Lt y z) : Lt x z := by
  unfold Lt at *
  omega
def qty (a b : Int) : List SL → Int
  | [] => 0
  | x :: xs => (if x.f0 = a ∧ x.f1 = b then x.f3 else 0) + qty a b xs
def cst (a b : Int) : List SL → Int
  | [] => 0
  | x :: xs => (if x.f0 = a ∧ x.f1 = b then x.f4 else 0) + cst a b xs
def Chn : Option SL → List SL → Prop
  | _, [] => True
  | none, x :: xs => Chn (some x) xs
  | some y, x :: xs => Lt y x ∧ Chn (some x) xs
def Right (l : List SL) : Prop := l.length ≤ 120 ∧ (∀ x ∈ l, Form x) ∧ Chn none l ∧ ∀ a b, Amt (qty a b l) ∧ Amt (cst a b l)
theorem Chn.tail {y x : SL} {l : List SL} (h : Lt y x) (g : Chn (some x) l) : Chn (some y) l := by
  cases l with
  | nil => trivial
  | cons z zs => exact ⟨h.trans g.1, g.2⟩
theorem Chn.all {y : SL} : ∀ {l : List SL}, Chn (some y) l → ∀ x ∈ l, Lt y x
  | [], _, x, hx => by cases hx
  | z :: zs, h, x, hx => by
    rcases List.mem_cons.1 hx with rfl | hx
    · exact h.1
    · exact Chn.all (Chn.tail h.1 h.2) x hx
theorem qty_none {a b : Int} : ∀ {l : List SL}, (∀ x ∈ l, ¬(x.f0 = a ∧ x.f1 = b)) → qty a b l = 0 ∧ cst a b l = 0
  | [], _ => ⟨rfl, rfl⟩
  | x :: xs, h => by
    have ih := qty_none (l := xs) fun y hy => h y (List.mem_cons_of_mem _ hy)
    have hx := h x (List.mem_cons_self ..)
    simp only [qty, cst]
    rw [if_neg hx, if_neg hx, ih.1, ih.2]
    exact ⟨rfl, rfl⟩
theorem qty_pos {a b : Int} : ∀ {l : List SL}, (∀ x ∈ l, Form x) → 0 ≤ qty a b l ∧ 0 ≤ cst a b l ∧ qty a b l ≤ l.length * 1000000000000000 ∧ cst a b l ≤ l.length * 1000000000000000
  | [], _ => ⟨Int.le_refl _, Int.le_refl _, by simp [qty], by simp [cst]⟩
  | x :: xs, h => by
    have ih := qty_pos (a := a) (b := b) (l := xs) fun y hy => h y (List.mem_cons_of_mem _ hy)
    have hx := h x (List.mem_cons_self ..)
    unfold Form at hx
    simp only [qty, cst, List.length_cons]
    split <;> omega
theorem qty_app (a b : Int) : ∀ (l m : List SL), qty a b (l ++ m) = qty a b l + qty a b m ∧ cst a b (l ++ m) = cst a b l + cst a b m
  | [], m => by simp [qty, cst]
  | x :: xs, m => by
    have ih := qty_app a b xs m
    simp only [List.cons_append, qty, cst]
    omega
theorem cmp_neg (x y : SL) : 0 ≤ impl_LotsOk.cmp x y ↔ ¬Lt x y := by
  unfold impl_LotsOk.cmp Lt
  by_cases h0 : x.f0 < y.f0
  · rw [if_pos h0]; omega
  · rw [if_neg h0]
    by_cases h1 : y.f0 < x.f0
    · rw [if_pos h1]; omega
    · rw [if_neg h1]
      by_cases h2 : x.f1 < y.f1
      · rw [if_pos h2]; omega
      · rw [if_neg h2]
        by_cases h3 : y.f1 < x.f1
        · rw [if_pos h3]; omega
        · rw [if_neg h3]
          by_cases h4 : x.f2 < y.f2
          · rw [if_pos h4]; omega
          · rw [if_neg h4]
            by_cases h5 : y.f2 < x.f2
            · rw [if_pos h5]; omega
            · rw [if_neg h5]; omega
theorem form_iff (x : SL) : impl_LotsOk.form x = true ↔ Form x := by
  unfold impl_LotsOk.form Form No
  rw [decide_eq_true_iff]
def prev (l : List SL) (i : Nat) : Option SL := if 0 < i then some (l.getD (i - 1) z37) else none
theorem chk_go (l : List SL) : ∀ (n i : Nat), l.length - i = n → i ≤ l.length → (impl_LotsOk.chk l n i = true ↔ (∀ x ∈ l.drop i, Form x) ∧ Chn (prev l i) (l.drop i))
  | 0, i, hn, hi => by
    obtain rfl : i = l.length := by omega
    rw [List.drop_length]
    unfold impl_LotsOk.chk
    exact ⟨fun _ => ⟨fun x hx => (by cases hx), trivial⟩, fun _ => rfl⟩
  | n + 1, i, hn, hi => by
    have h1 : i < l.length := by omega
    have ih := chk_go l n (i + 1) (by omega) (by omega)
    have ep : prev l (i + 1) = some (l.getD i z37) := by unfold prev; rw [if_pos (by omega), Nat.add_sub_cancel]
    rw [ep] at ih
    rw [drop_getD z37 l i h1]
    unfold impl_LotsOk.chk
    by_cases h0 : 0 < i
    · have e0 : prev l i = some (l.getD (i - 1) z37) := by unfold prev; rw [if_pos h0]
      rw [e0]
      constructor
      · intro h
        split at h
        · rename_i hg
          have h2 := ih.1 h
          refine ⟨fun x hx => ?_, Classical.byContradiction fun hh => hg.2 ⟨h0, (cmp_neg _ _).2 fun hl => hh ⟨hl, h2.2⟩⟩⟩
          rcases List.mem_cons.1 hx with rfl | hx
          · exact (form_iff _).1 hg.1
          · exact h2.1 x hx
        · cases h
      · rintro ⟨hf, hl, hc⟩
        rw [if_pos ⟨(form_iff _).2 (hf _ (List.mem_cons_self ..)), fun hh => (cmp_neg _ _).1 hh.2 hl⟩]
        exact ih.2 ⟨fun x hx => hf x (List.mem_cons_of_mem _ hx), hc⟩
    · have e0 : prev l i = none := by unfold prev; rw [if_neg h0]
      rw [e0]
      constructor
      · intro h
        split at h
        · rename_i hg
          have h2 := ih.1 h
          refine ⟨fun x hx => ?_, h2.2⟩
          rcases List.mem_cons.1 hx with rfl | hx
          · exact (form_iff _).1 hg.1
          · exact h2.1 x hx
        · cases h
      · rintro ⟨hf, hc⟩
        rw [if_pos ⟨(form_iff _).2 (hf _ (List.mem_cons_self ..)), fun hh => h0 hh.1⟩]
        exact ih.2 ⟨fun x hx => hf x (List.mem_cons_of_mem _ hx), hc⟩
theorem sum_of (a b : Int) : ∀ (l : List SL) (q c : Int), (∀ x ∈ l, Form x) → 0 ≤ q → 0 ≤ c → q + l.length * 1000000000000000 ≤ 9000000000000000000 → c + l.length * 1000000000000000 ≤ 9000000000000000000 →
    impl_LotsOk.sum3 (impl_LotsOk.of l a b) q = q + qty a b l ∧ impl_LotsOk.sum4 (impl_LotsOk.of l a b) c = c + cst a b l
  | [], q, c, _, _, _, _, _ => by simp [impl_LotsOk.of, impl_LotsOk.sum3, impl_LotsOk.sum4, qty, cst]
  | x :: xs, q, c, hf, h0, h1, h2, h3 => by
    have hx := hf x (List.mem_cons_self ..)
    have hxs : ∀ y ∈ xs, Form y := fun y hy => hf y (List.mem_cons_of_mem _ hy)
    unfold Form at hx
    simp only [List.length_cons] at h2 h3
    by_cases hk : x.f0 = a ∧ x.f1 = b
    · have e : impl_LotsOk.of (x :: xs) a b = x :: impl_LotsOk.of xs a b := by
        unfold impl_LotsOk.of
        rw [List.filter_cons_of_pos (by simpa using hk)]
      have ih := sum_of a b xs (q + x.f3) (c + x.f4) hxs (by omega) (by omega) (by omega) (by omega)
      rw [e]
      simp only [impl_LotsOk.sum3, impl_LotsOk.sum4, List.foldl_cons, qty, cst] at ih ⊢
      rw [if_pos hk, if_pos hk, w64_in (q + x.f3) (by omega) (by omega), w64_in (c + x.f4) (by omega) (by omega), ih.1, ih.2]
      omega
    · have e : impl_LotsOk.of (x :: xs) a b = impl_LotsOk.of xs a b := by
        unfold impl_LotsOk.of
        rw [List.filter_cons_of_neg (by simpa using hk)]
      have ih := sum_of a b xs q c hxs (by omega) (by omega) (by omega) (by omega)
      rw [e]
      simp only [qty, cst]
      rw [if_neg hk, if_neg hk, ih.1, ih.2]
      omega
theorem over_iff (l : List SL) (hl : l.length ≤ 120) (hf : ∀ x ∈ l, Form x) (x : SL) : impl_LotsOk.over l x = false ↔ Amt (qty x.f0 x.f1 l) ∧ Amt (cst x.f0 x.f1 l) := by
  have h := sum_of x.f0 x.f1 l 0 0 hf (Int.le_refl _) (Int.le_refl _) (by omega) (by omega)
  unfold impl_LotsOk.over
  rw [h.1, h.2, Int.zero_add, Int.zero_add]
  unfold impl_LotsOk.amt Amt
  by_cases h1 : -1000000000000000 ≤ qty x.f0 x.f1 l ∧ qty x.f0 x.f1 l ≤ 1000000000000000
  · by_cases h2 : -1000000000000000 ≤ cst x.f0 x.f1 l ∧ cst x.f0 x.f1 l ≤ 1000000000000000
    · simp [h1, h2]
    · rw [if_pos (decide_eq_true h1), decide_eq_false h2]
      exact ⟨fun h => Bool.noConfusion h, fun h => absurd h.2 h2⟩
  · rw [if_neg (by rw [decide_eq_false h1]; decide)]
    exact ⟨fun h => Bool.noConfusion h, fun h => absurd h.1 h1⟩
theorem ok_iff (l : List SL) : impl_LotsOk.ok l = true ↔ Right l := by
  unfold impl_LotsOk.ok
  have hc := chk_go l l.length 0 (by omega) (by omega)
  rw [List.drop_zero] at hc
  by_cases h1 : impl_LotsOk.chk l l.length 0 = true
  · rw [if_pos h1]
    have hg := hc.1 h1
    by_cases h2 : (l.length : Int) > 120
    · rw [if_pos h2]
      exact ⟨fun h => Bool.noConfusion h, fun h => absurd h.1 (by omega)⟩
    · rw [if_neg h2]
      have h3 : l.length ≤ 120 := by omega
      constructor
      · intro h
        have h4 : l.any (impl_LotsOk.over l) = false := by simpa using h
        refine ⟨h3, hg.1, hg.2, fun a b => ?_⟩
        by_cases hx : ∃ x ∈ l, x.f0 = a ∧ x.f1 = b
        · obtain ⟨x, hx, rfl, rfl⟩ := hx
          have h5 := List.any_eq_false.1 h4 x hx
          exact (over_iff l h3 hg.1 x).1 (by simpa using h5)
        · have h6 := qty_none (a := a) (b := b) (l := l) fun x hm hk => hx ⟨x, hm, hk⟩
          rw [h6.1, h6.2]
          unfold Amt
          omega
      · intro h
        have h4 : l.any (impl_LotsOk.over l) = false := by
          rw [List.any_eq_false]
          intro x _
          rw [(over_iff l h3 hg.1 x).2 (h.2.2.2 x.f0 x.f1)]
          decide
        rw [h4]
        rfl
  · rw [if_neg h1]
    exact ⟨fun h => Bool.noConfusion h, fun h => absurd (hc.2 ⟨h.2.1, h.2.2.1⟩) h1⟩
theorem some_s (a lo : Int) : spec_l1Some.f a lo = some (decide (lo ≤ a ∧ a ≤ 1000000000000000)) := by
  unfold spec_l1Some.f
  first | (rw [in_s]; rfl) | (rw [in_s])
theorem right_s (x : SL) : spec_l5Right.f x.f0 x.f1 x.f2 x.f3 x.f4 = some (decide (Form x)) := by
  unfold spec_l5Right.f
  simp only [no_s, in_s, some_s, Option.bind_some, decide_eq_true_iff]
  by_cases h0 : No x.f0
  · by_cases h1 : No x.f1
    · by_cases h2 : 1 ≤ x.f2 ∧ x.f2 ≤ 1000000000
      · by_cases h3 : 1 ≤ x.f3 ∧ x.f3 ≤ 1000000000000000
        · by_cases h4 : 0 ≤ x.f4 ∧ x.f4 ≤ 1000000000000000
          · rw [if_pos h0, if_pos h1, if_pos h2, if_pos h3, decide_eq_true h4, decide_eq_true (show Form x from ⟨h0, h1, h2, h3, h4⟩)]
          · rw [if_pos h0, if_pos h1, if_pos h2, if_pos h3, decide_eq_false h4, decide_eq_false (fun g : Form x => h4 g.2.2.2.2)]
        · rw [if_pos h0, if_pos h1, if_pos h2, if_neg h3, decide_eq_false (fun g : Form x => h3 g.2.2.2.1)]
      · rw [if_pos h0, if_pos h1, if_neg h2, decide_eq_false (fun g : Form x => h2 g.2.2.1)]
    · rw [if_pos h0, if_neg h1, decide_eq_false (fun g : Form x => h1 g.2.1)]
  · rw [if_neg h0, decide_eq_false (fun g : Form x => h0 g.1)]
theorem before_s (x y : SL) : spec_l5Before.f x.f0 x.f1 x.f2 x.f3 x.f4 y.f0 y.f1 y.f2 y.f3 y.f4 = some (decide (Lt x y)) := by
  unfold spec_l5Before.f spec_l4Before.f Lt
  by_cases h0 : x.f0 < y.f0
  · simp [h0]
  · by_cases h1 : x.f0 = y.f0
    · by_cases h2 : x.f1 < y.f1
      · simp [h1, h2]
      · by_cases h3 : x.f1 = y.f1 <;> simp [h1, h2, h3]
    · simp [h0, h1]
def base (p : Option SL) (q a b : Int) : Int := match p with
  | none => 0
  | some y => if y.f0 = a ∧ y.f1 = b then q else 0
def Aft (p : Option SL) (x : SL) : Prop := match p with
  | none => True
  | some y => Lt y x
instance (p : Option SL) (x : SL) : Decidable (Aft p x) := by unfold Aft; split <;> exact inferInstance
def go : Option SL → Int → Int → List SL → Bool
  | _, _, _, [] => true
  | p, q, c, x :: xs => if Form x ∧ Aft p x then (if Amt (base p q x.f0 x.f1 + x.f3) ∧ Amt (base p c x.f0 x.f1 + x.f4) then go (some x) (base p q x.f0 x.f1 + x.f3) (base p c x.f0 x.f1 + x.f4) xs else false) else false
theorem chn_cons (p : Option SL) (x : SL) (xs : List SL) : Chn p (x :: xs) ↔ Aft p x ∧ Chn (some x) xs := by
  cases p with
  | none => exact ⟨fun h => ⟨trivial, h⟩, fun h => h.2⟩
  | some y => exact Iff.rfl
theorem base_pos (p : Option SL) (q a b : Int) (h0 : 0 ≤ q) (h1 : q ≤ 1000000000000000) : 0 ≤ base p q a b ∧ base p q a b ≤ 1000000000000000 := by
  cases p with
  | none => simp only [base]; omega
  | some y => simp only [base]; split <;> omega
theorem base_own (x : SL) (q : Int) : base (some x) q x.f0 x.f1 = q := by simp only [base]; rw [if_pos ⟨trivial, trivial⟩]
theorem base_other {x : SL} {q a b : Int} (h : ¬(x.f0 = a ∧ x.f1 = b)) : base (some x) q a b = 0 := by simp only [base]; rw [if_neg h]
theorem gone {y x : SL} {xs : List SL} {a b : Int} (hl : Lt y x) (hc : Chn (some x) xs) (hy : y.f0 = a ∧ y.f1 = b) (hx : ¬(x.f0 = a ∧ x.f1 = b)) : qty a b xs = 0 ∧ cst a b xs = 0 :=
  qty_none fun z hz hk => by
    have h1 := Chn.all hc z hz
    unfold Lt at h1 hl
    omega
theorem go_iff : ∀ (l : List SL) (p : Option SL) (q c : Int), 0 ≤ q → q ≤ 1000000000000000 → 0 ≤ c → c ≤ 1000000000000000 →
    (go p q c l = true ↔ (∀ x ∈ l, Form x) ∧ Chn p l ∧ ∀ a b, Amt (base p q a b + qty a b l) ∧ Amt (base p c a b + cst a b l))
  | [], p, q, c, q0, q1, c0, c1 => by
    refine ⟨fun _ => ⟨fun x hx => (by cases hx), by cases p <;> trivial, fun a b => ?_⟩, fun _ => by cases p <;> rfl⟩
    have h1 := base_pos p q a b q0 q1
    have h2 := base_pos p c a b c0 c1
    simp only [qty, cst]
    unfold Amt
    omega
  | x :: xs, p, q, c, q0, q1, c0, c1 => by
    have hb1 := base_pos p q x.f0 x.f1 q0 q1
    have hb2 := base_pos p c x.f0 x.f1 c0 c1
    rw [go, chn_cons]
    by_cases h1 : Form x ∧ Aft p x
    · rw [if_pos h1]
      have hfx := h1.1
      unfold Form at hfx
      by_cases h2 : Amt (base p q x.f0 x.f1 + x.f3) ∧ Amt (base p c x.f0 x.f1 + x.f4)
      · rw [if_pos h2]
        have ih := go_iff xs (some x) (base p q x.f0 x.f1 + x.f3) (base p c x.f0 x.f1 + x.f4) (by omega) h2.1.2 (by omega) h2.2.2
        have key : Chn (some x) xs → ∀ a b, ((Amt (base (some x) (base p q x.f0 x.f1 + x.f3) a b + qty a b xs) ∧ Amt (base (some x) (base p c x.f0 x.f1 + x.f4) a b + cst a b xs)) ↔ (Amt (base p q a b + qty a b (x :: xs)) ∧ Amt (base p c a b + cst a b (x :: xs)))) := by
          intro hc a b
          by_cases hk : x.f0 = a ∧ x.f1 = b
          · obtain ⟨rfl, rfl⟩ := hk
            rw [base_own, base_own]
            simp only [qty, cst]
            rw [if_pos ⟨trivial, trivial⟩, if_pos ⟨trivial, trivial⟩, Int.add_assoc, Int.add_assoc]
          · rw [base_other hk, base_other hk]
            simp only [qty, cst]
            rw [if_neg hk, if_neg hk]
            simp only [Int.zero_add]
            cases p with
            | none => simp only [base, Int.zero_add]
            | some y =>
              by_cases hy : y.f0 = a ∧ y.f1 = b
              · have hg := gone h1.2 hc hy hk
                simp only [base]
                rw [if_pos hy, if_pos hy, hg.1, hg.2]
                unfold Amt
                omega
              · rw [base_other hy, base_other hy]
                simp only [Int.zero_add]
        constructor
        · intro h
          obtain ⟨f1, f2, f3⟩ := ih.1 h
          refine ⟨fun z hz => ?_, ⟨h1.2, f2⟩, fun a b => (key f2 a b).1 (f3 a b)⟩
          rcases List.mem_cons.1 hz with rfl | hz
          · exact h1.1
          · exact f1 z hz
        · rintro ⟨f1, ⟨_, f2⟩, f3⟩
          exact ih.2 ⟨fun z hz => f1 z (List.mem_cons_of_mem _ hz), f2, fun a b => (key f2 a b).2 (f3 a b)⟩
      · rw [if_neg h2]
        refine ⟨fun h => Bool.noConfusion h, fun h => absurd ?_ h2⟩
        obtain ⟨f1, ⟨_, f2⟩, f3⟩ := h
        have h3 := f3 x.f0 x.f1
        have h4 := qty_pos (a := x.f0) (b := x.f1) (l := xs) fun z hz => f1 z (List.mem_cons_of_mem _ hz)
        simp only [qty, cst] at h3
        rw [if_pos ⟨trivial, trivial⟩, if_pos ⟨trivial, trivial⟩] at h3
        unfold Amt at h3 ⊢
        omega
    · rw [if_neg h1]
      exact ⟨fun h => Bool.noConfusion h, fun h => absurd ⟨h.1 x (List.mem_cons_self ..), h.2.1.1⟩ h1⟩
theorem lotsOk_s (l : List SL) : Ev (fun k => spec_LotsOk.f k l) (impl_LotsOk.ok l) := by
  unfold spec_LotsOk.f
  have hok : impl_LotsOk.ok l = (if (l.length : Int) > 120 then false else go none 0 0 l) := by
    rw [Bool.eq_iff_iff, ok_iff]
    by_cases h : (l.length : Int) > 120
    · rw [if_pos h]
      exact ⟨fun g => absurd g.1 (by omega), fun g => Bool.noConfusion g⟩
    · rw [if_neg h, go_iff l none 0 0 (by omega) (by omega) (by omega) (by omega)]
      unfold Right
      simp only [base, Int.zero_add]
      exact ⟨fun g => g.2, fun g => ⟨by omega, g⟩⟩
  rw [hok]
  by_cases hn : (l.length : Int) > 120
  · rw [if_pos hn]
    exact Ev_all_k fun k => by rw [if_pos hn]
  · rw [if_neg hn]
    have h := Ev_goes' (fun k (s : Int × Int) i => spec_LotsOk.l0 k l s.1 s.2 i) l.length (fun i s => go (prev l i) s.1 s.2 (l.drop i)) (fun i s => 0 ≤ s.1 ∧ s.1 ≤ 1000000000000000 ∧ 0 ≤ s.2 ∧ s.2 ≤ 1000000000000000)
      (fun s hs => Ev_one fun k => by
        simp only [spec_LotsOk.l0]
        rw [if_neg (by omega), List.drop_length]
        cases prev l l.length <;> rfl)
      (fun i s hi hs => by
        obtain ⟨q, c⟩ := s
        obtain ⟨q0, q1, c0, c1⟩ := hs
        simp only at q0 q1 c0 c1
        show (Ev (fun k => spec_LotsOk.l0 k l q c (i : Int)) (go (prev l i) q c (l.drop i))) ∨ _
        have ep : prev l (i + 1) = some (l.getD i z37) := by unfold prev; rw [if_pos (by omega), Nat.add_sub_cancel]
        rw [drop_getD z37 l i hi]
        show (Ev (fun k => spec_LotsOk.l0 k l q c (i : Int)) (go (prev l i) q c (l.getD i z37 :: l.drop (i + 1)))) ∨ ∃ s' : Int × Int, _ ∧ go (prev l (i + 1)) s'.1 s'.2 (l.drop (i + 1)) = go (prev l i) q c (l.getD i z37 :: l.drop (i + 1)) ∧ _
        rw [ep]
        generalize hx : l.getD i z37 = x
        rw [go]
        have hb1 := base_pos (prev l i) q x.f0 x.f1 q0 q1
        have hb2 := base_pos (prev l i) c x.f0 x.f1 c0 c1
        -- the round's last part
        have e3 : Form x → ∀ (a b : Int), 0 ≤ a → a ≤ 1000000000000000 → 0 ≤ b → b ≤ 1000000000000000 → ∀ k, spec_LotsOk.j3 (k + 1) l a b (i : Int) x.f0 x.f1 x.f2 x.f3 x.f4 = if Amt (a + x.f3) ∧ Amt (b + x.f4) then spec_LotsOk.l0 k l (a + x.f3) (b + x.f4) ((i + 1 : Nat) : Int) else some false := by
          intro hf a b a0 a1 b0 b1 k
          unfold Form at hf
          simp only [spec_LotsOk.j3]
          rw [w64_in (a + x.f3) (by omega) (by omega), w64_in (b + x.f4) (by omega) (by omega), w_succ hi (by omega), amt_s, amt_s, Option.bind_some, Option.bind_some]
          by_cases h1 : Amt (a + x.f3)
          · by_cases h2 : Amt (b + x.f4)
            · rw [if_pos (decide_eq_true h1), if_pos (decide_eq_true h2), if_pos ⟨h1, h2⟩]
            · rw [if_pos (decide_eq_true h1), if_neg (by rw [decide_eq_false h2]; decide), if_neg fun g => h2 g.2]
          · rw [if_neg (by rw [decide_eq_false h1]; decide), if_neg fun g => h1 g.1]
        have e2 : ∀ k (t : Bool), spec_LotsOk.j2 (k + 1) l q c (i : Int) t x.f0 x.f1 x.f2 x.f3 x.f4 = if t = true then spec_LotsOk.j3 k l 0 0 (i : Int) x.f0 x.f1 x.f2 x.f3 x.f4 else spec_LotsOk.j3 k l q c (i : Int) x.f0 x.f1 x.f2 x.f3 x.f4 := fun k t => by simp only [spec_LotsOk.j2]
        -- what the round comes to, once the pair's own amounts are known
        have fin : ∀ a b, Form x → a = base (prev l i) q x.f0 x.f1 → b = base (prev l i) c x.f0 x.f1 → Aft (prev l i) x → (∀ r, Ev (fun k => spec_LotsOk.j3 k l a b (i : Int) x.f0 x.f1 x.f2 x.f3 x.f4) r → Ev (fun k => spec_LotsOk.l0 k l q c (i : Int)) r) →
            (Ev (fun k => spec_LotsOk.l0 k l q c (i : Int)) (if Form x ∧ Aft (prev l i) x then (if Amt (base (prev l i) q x.f0 x.f1 + x.f3) ∧ Amt (base (prev l i) c x.f0 x.f1 + x.f4) then go (some x) (base (prev l i) q x.f0 x.f1 + x.f3) (base (prev l i) c x.f0 x.f1 + x.f4) (l.drop (i + 1)) else false) else false)) ∨
            ∃ s' : Int × Int, (0 ≤ s'.1 ∧ s'.1 ≤ 1000000000000000 ∧ 0 ≤ s'.2 ∧ s'.2 ≤ 1000000000000000) ∧ go (some x) s'.1 s'.2 (l.drop (i + 1)) = (if Form x ∧ Aft (prev l i) x then (if Amt (base (prev l i) q x.f0 x.f1 + x.f3) ∧ Amt (base (prev l i) c x.f0 x.f1 + x.f4) then go (some x) (base (prev l i) q x.f0 x.f1 + x.f3) (base (prev l i) c x.f0 x.f1 + x.f4) (l.drop (i + 1)) else false) else false) ∧
              ∀ r, Ev (fun k => spec_LotsOk.l0 k l s'.1 s'.2 ((i + 1 : Nat) : Int)) r → Ev (fun k => spec_LotsOk.l0 k l q c (i : Int)) r := by
          rintro a b hf rfl rfl ha step
          rw [if_pos ⟨hf, ha⟩]
          have hf' := hf
          unfold Form at hf'
          by_cases hm : Amt (base (prev l i) q x.f0 x.f1 + x.f3) ∧ Amt (base (prev l i) c x.f0 x.f1 + x.f4)
          · rw [if_pos hm]
            refine .inr ⟨(base (prev l i) q x.f0 x.f1 + x.f3, base (prev l i) c x.f0 x.f1 + x.f4), ⟨by show 0 ≤ _ + x.f3; omega, hm.1.2, by show 0 ≤ _ + x.f4; omega, hm.2.2⟩, rfl, fun r hr => ?_⟩
            refine step r (Ev.step (fun k => ?_) hr)
            show spec_LotsOk.j3 (k + 1) l _ _ (i : Int) x.f0 x.f1 x.f2 x.f3 x.f4 = _
            rw [e3 hf _ _ hb1.1 hb1.2 hb2.1 hb2.2 k, if_pos hm]
          · rw [if_neg hm]
            refine .inl (step false (Ev_one fun k => ?_))
            show spec_LotsOk.j3 (k + 1) l _ _ (i : Int) x.f0 x.f1 x.f2 x.f3 x.f4 = _
            rw [e3 hf _ _ hb1.1 hb1.2 hb2.1 hb2.2 k, if_neg hm]
        by_cases hf : Form x
        · by_cases h0 : 0 < i
          · have e0 : prev l i = some (l.getD (i - 1) z37) := by unfold prev; rw [if_pos h0]
            generalize hy : l.getD (i - 1) z37 = y at e0
            have eA : ∀ k, spec_LotsOk.l0 (k + 1) l q c (i : Int) = spec_LotsOk.j1 k l q c (i : Int) (!decide (Lt y x)) x.f0 x.f1 x.f2 x.f3 x.f4 := by
              intro k
              simp only [spec_LotsOk.l0]
              rw [if_pos (by omega), if_pos (by omega), w_pred hi h0 (by omega)]
              simp only [rdL, hx, hy, right_s, before_s, Option.bind_some, decide_eq_true_iff]
              rw [if_pos hf, if_pos (by omega), if_pos (by omega), if_pos (by omega)]
            by_cases hl : Lt y x
            · have ha : Aft (prev l i) x := by rw [e0]; exact hl
              have eB : ∀ k, spec_LotsOk.j1 (k + 1) l q c (i : Int) false x.f0 x.f1 x.f2 x.f3 x.f4 = spec_LotsOk.j2 k l q c (i : Int) (!decide (y.f0 = x.f0 ∧ y.f1 = x.f1)) x.f0 x.f1 x.f2 x.f3 x.f4 := by
                intro k
                simp only [spec_LotsOk.j1]
                rw [if_neg (by decide), if_neg (by omega), w_pred hi h0 (by omega), if_pos (by omega), if_pos (by omega)]
                simp only [rdL, hy]
                by_cases k1 : x.f0 = y.f0
                · rw [if_pos k1]
                  by_cases k2 : x.f1 = y.f1
                  · rw [decide_eq_true (show y.f0 = x.f0 ∧ y.f1 = x.f1 from ⟨k1.symm, k2.symm⟩), k2]
                    simp
                  · rw [decide_eq_false (show ¬(y.f0 = x.f0 ∧ y.f1 = x.f1) from fun g => k2 g.2.symm), show (x.f1 != y.f1) = true by simpa using k2]
                    rfl
                · rw [if_neg k1, decide_eq_false (show ¬(y.f0 = x.f0 ∧ y.f1 = x.f1) from fun g => k1 g.1.symm)]
                  rfl
              by_cases hk : y.f0 = x.f0 ∧ y.f1 = x.f1
              · refine fin q c hf (by rw [e0]; simp only [base]; rw [if_pos hk]) (by rw [e0]; simp only [base]; rw [if_pos hk]) ha fun r hr => ?_
                refine Ev.step (fun k => by rw [eA k, decide_eq_true hl]) (Ev.step (fun k => by show spec_LotsOk.j1 (k + 1) l q c (i : Int) false x.f0 x.f1 x.f2 x.f3 x.f4 = _; rw [eB k, decide_eq_true hk]) (Ev.step (fun k => by show spec_LotsOk.j2 (k + 1) l q c (i : Int) false x.f0 x.f1 x.f2 x.f3 x.f4 = _; rw [e2 k, if_neg (by decide)]) hr))
              · refine fin 0 0 hf (by rw [e0]; simp only [base]; rw [if_neg hk]) (by rw [e0]; simp only [base]; rw [if_neg hk]) ha fun r hr => ?_
                refine Ev.step (fun k => by rw [eA k, decide_eq_true hl]) (Ev.step (fun k => by show spec_LotsOk.j1 (k + 1) l q c (i : Int) false x.f0 x.f1 x.f2 x.f3 x.f4 = _; rw [eB k, decide_eq_false hk]) (Ev.step (fun k => by show spec_LotsOk.j2 (k + 1) l q c (i : Int) true x.f0 x.f1 x.f2 x.f3 x.f4 = _; rw [e2 k, if_pos rfl]) hr))
            · have ha : ¬(Form x ∧ Aft (prev l i) x) := by rw [e0]; exact fun g => hl g.2
              rw [if_neg ha]
              refine .inl (Ev.step (fun k => by rw [eA k, decide_eq_false hl]) (Ev_one fun k => ?_))
              show spec_LotsOk.j1 (k + 1) l q c (i : Int) true x.f0 x.f1 x.f2 x.f3 x.f4 = _
              simp only [spec_LotsOk.j1]
              rw [if_pos trivial]
          · have e0 : prev l i = none := by unfold prev; rw [if_neg h0]
            have ha : Aft (prev l i) x := by rw [e0]; exact trivial
            have hz : (i : Int) = 0 := by omega
            refine fin 0 0 hf (by rw [e0]; rfl) (by rw [e0]; rfl) ha fun r hr => ?_
            refine Ev.step (f := fun k => spec_LotsOk.j1 k l q c (i : Int) false x.f0 x.f1 x.f2 x.f3 x.f4) (fun k => ?_) (Ev.step (f := fun k => spec_LotsOk.j2 k l q c (i : Int) true x.f0 x.f1 x.f2 x.f3 x.f4) (fun k => ?_) (Ev.step (fun k => by show spec_LotsOk.j2 (k + 1) l q c (i : Int) true x.f0 x.f1 x.f2 x.f3 x.f4 = _; rw [e2 k, if_pos rfl]) hr))
            · show spec_LotsOk.l0 (k + 1) l q c (i : Int) = _
              simp only [spec_LotsOk.l0]
              rw [if_pos (by omega), if_pos (by omega)]
              simp only [rdL, hx, right_s, Option.bind_some, decide_eq_true_iff]
              rw [if_pos hf, if_neg (by omega)]
            · show spec_LotsOk.j1 (k + 1) l q c (i : Int) false x.f0 x.f1 x.f2 x.f3 x.f4 = _
              simp only [spec_LotsOk.j1]
              rw [if_neg (by decide), if_pos hz]
        · rw [if_neg (fun g => hf g.1)]
          refine .inl (Ev.step (f := fun k => spec_LotsOk.j1 k l q c (i : Int) true x.f0 x.f1 x.f2 x.f3 x.f4) (fun k => ?_) (Ev_one fun k => ?_))
          · show spec_LotsOk.l0 (k + 1) l q c (i : Int) = _
            simp only [spec_LotsOk.l0]
            rw [if_pos (by omega), if_pos (by omega)]
            simp only [rdL, hx, right_s, Option.bind_some, decide_eq_true_iff]
            rw [if_neg hf]
          · show spec_LotsOk.j1 (k + 1) l q c (i : Int) true x.f0 x.f1 x.f2 x.f3 x.f4 = _
            simp only [spec_LotsOk.j1]
            rw [if_pos trivial]) l.length 0 (0, 0) (by omega) (by omega) ⟨by decide, by decide, by decide, by decide⟩
    refine Ev.congr (fun k => by rw [if_neg hn]; rfl) h
end Go.Proofs.Ytomanpmffjkkgaa.E1
namespace Go.Proofs.Ytomanpmffjkkgaa.E2
open Go Go.RowKit Go.Proofs.Ytomanpmffjkkgaa.P Go.Proofs.YtomanpmffjkkgaaW.PrintWords Go.Proofs.YtomanpmffjkkgaaW.PrintLast Go.Proofs.Ytomanpmffjkkgaa.EV Go.Proofs.Ytomanpmffjkkgaa.I1 Go.Proofs.Ytomanpmffjkkgaa.N1 Go.Proofs.Ytomanpmffjkkgaa.E1
def Own (a b : Int) (x : SL) : Bool := decide (x.f0 = a ∧ x.f1 = b)
def ofL (a b : Int) (l : List SL) : List SL := l.filter (Own a b)
def outL (a b : Int) (l : List SL) : List SL := l.filter fun x => !Own a b x
theorem of_len (a b : Int) (l : List SL) : (ofL a b l).length ≤ l.length := List.length_filter_le _ _
theorem split_s (l : List SL) (a b : Int) (hl : l.length ≤ 1048577) : Ev (fun k => spec_l5Split.f k l a b) (ofL a b l, outL a b l) := by
  unfold spec_l5Split.f
  have h := Ev_goes (fun k (s : List SL × List SL) i => spec_l5Split.l0 k l a b s.1 s.2 i) l.length (fun i s => (s.1 ++ ofL a b (l.drop i), s.2 ++ outL a b (l.drop i))) (fun i s => s.1.length ≤ i ∧ s.2.length ≤ i)
    (fun s _ => Ev_one fun k => by
      simp only [spec_l5Split.l0]
      rw [if_neg (by omega), List.drop_length]
      simp [ofL, outL])
    (fun i s hi hs => by
      obtain ⟨p, q⟩ := s
      simp only at hs
      have e : l.drop i = l.getD i z37 :: l.drop (i + 1) := drop_getD z37 l i hi
      by_cases h1 : (l.getD i z37).f0 = a ∧ (l.getD i z37).f1 = b
      · refine .inr ⟨(p ++ [l.getD i z37], q), ⟨by show (p ++ [_]).length ≤ i + 1; rw [List.length_append, List.length_singleton]; omega, Nat.le_succ_of_le hs.2⟩, ?_, fun k => ?_⟩
        · have hO : Own a b (l.getD i z37) = true := decide_eq_true h1
          rw [e]
          simp only [ofL, outL]
          rw [List.filter_cons_of_pos hO, List.filter_cons_of_neg (by rw [hO]; decide), List.append_assoc]
          rfl
        · show spec_l5Split.l0 (k + 1) l a b p q (i : Int) = _
          simp only [spec_l5Split.l0]
          rw [if_pos (by omega), if_pos (by omega), w_succ hi (by omega)]
          simp only [rdL]
          rw [if_pos h1.1, if_pos h1.2, if_pos (by omega)]
      · have step : ∀ k, spec_l5Split.l0 (k + 1) l a b p q (i : Int) = spec_l5Split.l0 k l a b p (q ++ [l.getD i z37]) ((i + 1 : Nat) : Int) := fun k => by
          simp only [spec_l5Split.l0]
          rw [if_pos (by omega), if_pos (by omega), w_succ hi (by omega)]
          simp only [rdL]
          by_cases h2 : (l.getD i z37).f0 = a
          · rw [if_pos h2, if_neg fun h3 => h1 ⟨h2, h3⟩, if_pos (by omega)]
          · rw [if_neg h2, if_pos (by omega)]
        refine .inr ⟨(p, q ++ [l.getD i z37]), ⟨Nat.le_succ_of_le hs.1, by show (q ++ [_]).length ≤ i + 1; rw [List.length_append, List.length_singleton]; omega⟩, ?_, step⟩
        have hO : Own a b (l.getD i z37) = false := decide_eq_false h1
        rw [e]
        simp only [ofL, outL]
        rw [List.filter_cons_of_neg (by rw [hO]; decide), List.filter_cons_of_pos (by rw [hO]; decide), List.append_assoc]
        rfl) l.length 0 ([], []) (by omega) (by omega) ⟨Nat.le_refl _, Nat.le_refl _⟩
  exact h
theorem qty_s (l : List SL) (hl : l.length ≤ 1048577) : Ev (fun k => spec_l5Qty.f k l) (impl_LotsOk.sum3 l 0) := by
  unfold spec_l5Qty.f
  have h := Ev_goes (fun k (s : Int) i => spec_l5Qty.l0 k l s i) l.length (fun i s => impl_LotsOk.sum3 (l.drop i) s) (fun _ _ => True)
    (fun s _ => Ev_one fun k => by
      simp only [spec_l5Qty.l0]
      rw [if_neg (by omega), List.drop_length]
      rfl)
    (fun i s hi _ => .inr ⟨wrap64 (s + (l.getD i z37).f3), trivial, by rw [drop_getD z37 l i hi]; rfl, fun k => by
      show spec_l5Qty.l0 (k + 1) l s (i : Int) = _
      simp only [spec_l5Qty.l0]
      rw [if_pos (by omega), if_pos (by omega), w_succ hi (by omega), rdL]⟩) l.length 0 0 (by omega) (by omega) trivial
  exact h
theorem cost_s (l : List SL) (hl : l.length ≤ 1048577) : Ev (fun k => spec_l5Cost.f k l) (impl_LotsOk.sum4 l 0) := by
  unfold spec_l5Cost.f
  have h := Ev_goes (fun k (s : Int) i => spec_l5Cost.l0 k l s i) l.length (fun i s => impl_LotsOk.sum4 (l.drop i) s) (fun _ _ => True)
    (fun s _ => Ev_one fun k => by
      simp only [spec_l5Cost.l0]
      rw [if_neg (by omega), List.drop_length]
      rfl)
    (fun i s hi _ => .inr ⟨wrap64 (s + (l.getD i z37).f4), trivial, by rw [drop_getD z37 l i hi]; rfl, fun k => by
      show spec_l5Cost.l0 (k + 1) l s (i : Int) = _
      simp only [spec_l5Cost.l0]
      rw [if_pos (by omega), if_pos (by omega), w_succ hi (by omega), rdL]⟩) l.length 0 0 (by omega) (by omega) trivial
  exact h
theorem sums_i (l : List SL) (hl : l.length ≤ 1048577) : Ev (fun k => impl_sumLots.f k l) (impl_LotsOk.sum3 l 0, impl_LotsOk.sum4 l 0) := by
  unfold impl_sumLots.f
  have h := Ev_goes (fun k (s : Int × Int) i => impl_sumLots.l0 k s.1 s.2 l (l.length : Int) i) l.length (fun i s => (impl_LotsOk.sum3 (l.drop i) s.1, impl_LotsOk.sum4 (l.drop i) s.2)) (fun _ _ => True)
    (fun s _ => Ev_one fun k => by
      simp only [impl_sumLots.l0]
      rw [if_neg (by omega), List.drop_length]
      rfl)
    (fun i s hi _ => .inr ⟨(wrap64 (s.1 + (l.getD i z37).f3), wrap64 (s.2 + (l.getD i z37).f4)), trivial, by rw [drop_getD z37 l i hi]; rfl, fun k => by
      show impl_sumLots.l0 (k + 1) s.1 s.2 l (l.length : Int) (i : Int) = _
      simp only [impl_sumLots.l0]
      rw [if_pos (by omega), if_pos (by omega), if_pos (by omega), w_succ hi (by omega), rdL]⟩) l.length 0 (0, 0) (by omega) (by omega) trivial
  exact h
def lotsL (l : List SL) (a b : Int) : List SL := if impl_LotsOk.ok l = true then ofL a b l else []
theorem lots_len (l : List SL) (a b : Int) : (lotsL l a b).length ≤ l.length := by
  unfold lotsL
  split
  · exact of_len a b l
  · exact Nat.zero_le _
theorem lotsOf_s (l : List SL) (a b : Int) (hl : l.length ≤ 1048576) : Ev (fun k => spec_LotsOf.f k l a b) (lotsL l a b) := by
  unfold spec_LotsOf.f lotsL
  refine Ev_bind (lotsOk_s l) ?_
  by_cases h : impl_LotsOk.ok l = true
  · rw [if_pos h]
    refine Ev.congr (fun k => if_pos h) ?_
    exact Ev_bind (split_s l a b (by omega)) (Ev_all_k fun k => rfl)
  · rw [if_neg h]
    exact Ev_all_k fun k => if_neg h
theorem lotsOf_i (l : List SL) (a b : Int) (hl : l.length ≤ 1048576) : impl_LotsOf.f l a b = some (lotsL l a b) := by
  unfold impl_LotsOf.f impl_LotsOk.f lotsL
  rw [if_pos (by omega), Option.bind_some]
  by_cases h : impl_LotsOk.ok l = true
  · rw [if_pos h, if_pos h]
    unfold impl_lotsOf.f
    rw [if_pos (by omega)]
    rfl
  · rw [if_neg h, if_neg h]
end Go.Proofs.Ytomanpmffjkkgaa.E2
namespace Go.Proofs.Ytomanpmffjkkgaa.E3
open Go Go.RowKit Go.Proofs.Ytomanpmffjkkgaa.P Go.Proofs.YtomanpmffjkkgaaW.PrintWords Go.Proofs.YtomanpmffjkkgaaW.PrintLast Go.Proofs.Ytomanpmffjkkgaa.EV Go.Proofs.Ytomanpmffjkkgaa.I1 Go.Proofs.Ytomanpmffjkkgaa.N1 Go.Proofs.Ytomanpmffjkkgaa.E1
def mergeL : List SL → List SL → List SL
  | [], ys => ys
  | x :: xs, [] => x :: xs
  | x :: xs, y :: ys => if Lt x y then x :: mergeL xs (y :: ys) else y :: mergeL (x :: xs) ys
termination_by xs ys => xs.length + ys.length
theorem merge_nil (xs : List SL) : mergeL xs [] = xs := by cases xs <;> simp [mergeL]
theorem nil_merge (ys : List SL) : mergeL [] ys = ys := by simp [mergeL]
theorem merge_len : ∀ (xs ys : List SL), (mergeL xs ys).length = xs.length + ys.length
  | [], ys => by simp [mergeL]
  | x :: xs, [] => by simp [mergeL]
  | x :: xs, y :: ys => by
    rw [mergeL]
    split
    · rw [List.length_cons, merge_len xs (y :: ys)]
      simp only [List.length_cons]
      omega
    · rw [List.length_cons, merge_len (x :: xs) ys]
      simp only [List.length_cons]
      omega
termination_by xs ys => xs.length + ys.length
theorem merge_go (a b : List SL) (hm : a.length + b.length ≤ 3000000) : ∀ (n : Nat) (acc : List SL) (i j : Nat), (a.length - i) + (b.length - j) = n → i ≤ a.length → j ≤ b.length → acc.length ≤ i + j →
    Ev (fun k => spec_l5Merge.l0 k a b acc (i : Int) (j : Int)) (acc ++ mergeL (a.drop i) (b.drop j)) := by
  intro n
  induction n with
  | zero =>
    intro acc i j hn hi hj _
    have e1 : a.drop i = [] := List.drop_eq_nil_of_le (by omega)
    have e2 : b.drop j = [] := List.drop_eq_nil_of_le (by omega)
    rw [e1, e2, merge_nil, List.append_nil]
    refine Ev.step (f := fun k => spec_l5Merge.j1 k a b acc (i : Int) (j : Int) false) (fun k => ?_) (Ev_one fun k => ?_)
    · show spec_l5Merge.l0 (k + 1) a b acc (i : Int) (j : Int) = _
      simp only [spec_l5Merge.l0]
      rw [if_neg (by omega), decide_eq_false (by omega)]
    · show spec_l5Merge.j1 (k + 1) a b acc (i : Int) (j : Int) false = _
      simp only [spec_l5Merge.j1]
      rw [if_neg (by decide)]
  | succ n ih =>
    intro acc i j hn hi hj ha
    have e0 : ∀ k, spec_l5Merge.l0 (k + 1) a b acc (i : Int) (j : Int) = spec_l5Merge.j1 k a b acc (i : Int) (j : Int) true := fun k => by
      simp only [spec_l5Merge.l0]
      by_cases h1 : i < a.length
      · rw [if_pos (by omega)]
      · rw [if_neg (by omega), decide_eq_true (by omega)]
    refine Ev.step e0 ?_
    have takeA : i < a.length → mergeL (a.drop i) (b.drop j) = a.getD i z37 :: mergeL (a.drop (i + 1)) (b.drop j) → (∀ k, spec_l5Merge.j1 (k + 1) a b acc (i : Int) (j : Int) true = spec_l5Merge.l0 k a b (acc ++ [a.getD i z37]) ((i + 1 : Nat) : Int) (j : Int)) → Ev (fun k => spec_l5Merge.j1 k a b acc (i : Int) (j : Int) true) (acc ++ mergeL (a.drop i) (b.drop j)) := by
      intro h1 h2 h3
      have h4 := ih (acc ++ [a.getD i z37]) (i + 1) j (by omega) (by omega) hj (by rw [List.length_append, List.length_singleton]; omega)
      rw [h2, show acc ++ a.getD i z37 :: mergeL (a.drop (i + 1)) (b.drop j) = (acc ++ [a.getD i z37]) ++ mergeL (a.drop (i + 1)) (b.drop j) by rw [List.append_assoc]; rfl]
      exact Ev.step h3 h4
    have takeB : j < b.length → mergeL (a.drop i) (b.drop j) = b.getD j z37 :: mergeL (a.drop i) (b.drop (j + 1)) → (∀ k, spec_l5Merge.j1 (k + 1) a b acc (i : Int) (j : Int) true = spec_l5Merge.l0 k a b (acc ++ [b.getD j z37]) (i : Int) ((j + 1 : Nat) : Int)) → Ev (fun k => spec_l5Merge.j1 k a b acc (i : Int) (j : Int) true) (acc ++ mergeL (a.drop i) (b.drop j)) := by
      intro h1 h2 h3
      have h4 := ih (acc ++ [b.getD j z37]) i (j + 1) (by omega) hi (by omega) (by rw [List.length_append, List.length_singleton]; omega)
      rw [h2, show acc ++ b.getD j z37 :: mergeL (a.drop i) (b.drop (j + 1)) = (acc ++ [b.getD j z37]) ++ mergeL (a.drop i) (b.drop (j + 1)) by rw [List.append_assoc]; rfl]
      exact Ev.step h3 h4
    by_cases hb : j = b.length
    · have h1 : i < a.length := by omega
      refine takeA h1 (by rw [show b.drop j = [] from List.drop_eq_nil_of_le (by omega), merge_nil, merge_nil, drop_getD z37 a i h1]) fun k => ?_
      simp only [spec_l5Merge.j1]
      rw [if_pos trivial, if_pos (by omega), if_pos (by omega), if_pos (by omega), if_pos (by omega), w_succ h1 (by omega)]
      simp only [rdL]
    · have h2 : j < b.length := by omega
      by_cases h1 : i < a.length
      · by_cases hl : Lt (a.getD i z37) (b.getD j z37)
        · refine takeA h1 (by rw [drop_getD z37 a i h1, drop_getD z37 b j h2, mergeL, if_pos hl]) fun k => ?_
          simp only [spec_l5Merge.j1]
          rw [if_pos trivial, if_neg (by omega), if_pos (by omega), if_pos (by omega), if_pos (by omega), if_pos (by omega), w_succ h1 (by omega)]
          simp only [rdL, before_s, Option.bind_some, decide_eq_true_iff]
          rw [if_pos hl, if_pos (by omega)]
        · refine takeB h2 (by rw [drop_getD z37 a i h1, drop_getD z37 b j h2, mergeL, if_neg hl]) fun k => ?_
          simp only [spec_l5Merge.j1]
          rw [if_pos trivial, if_neg (by omega), if_pos (by omega), if_pos (by omega), if_pos (by omega), if_pos (by omega), w_succ h2 (by omega)]
          simp only [rdL, before_s, Option.bind_some, decide_eq_true_iff]
          rw [if_neg hl, if_pos (by omega)]
      · refine takeB h2 (by rw [show a.drop i = [] from List.drop_eq_nil_of_le (by omega), nil_merge, nil_merge, drop_getD z37 b j h2]) fun k => ?_
        simp only [spec_l5Merge.j1]
        rw [if_pos trivial, if_neg (by omega), if_neg (by omega), if_pos (by omega), if_pos (by omega), if_pos (by omega), w_succ h2 (by omega)]
        simp only [rdL]
theorem merge_s (a b : List SL) (hm : a.length + b.length ≤ 3000000) : Ev (fun k => spec_l5Merge.f k a b) (mergeL a b) := by
  unfold spec_l5Merge.f
  have h := merge_go a b hm _ [] 0 0 rfl (Nat.zero_le _) (Nat.zero_le _) (Nat.le_refl _)
  rw [List.drop_zero, List.drop_zero, List.nil_append] at h
  exact h
end Go.Proofs.Ytomanpmffjkkgaa.E3
namespace Go.Proofs.Ytomanpmffjkkgaa.E4
open Go Go.RowKit Go.Proofs.Ytomanpmffjkkgaa.P Go.Proofs.YtomanpmffjkkgaaW.PrintWords Go.Proofs.YtomanpmffjkkgaaW.PrintLast Go.Proofs.Ytomanpmffjkkgaa.EV Go.Proofs.Ytomanpmffjkkgaa.I1 Go.Proofs.Ytomanpmffjkkgaa.N1 Go.Proofs.Ytomanpmffjkkgaa.E1 Go.Proofs.Ytomanpmffjkkgaa.E2 Go.Proofs.Ytomanpmffjkkgaa.E3
theorem ok_one (x : SL) : impl_LotsOk.ok [x] = decide (E1.Form x) := by
  rw [Bool.eq_iff_iff, ok_iff, decide_eq_true_iff]
  constructor
  · intro h
    exact h.2.1 x (List.mem_cons_self ..)
  · intro h
    refine ⟨by simp, fun y hy => ?_, trivial, fun a b => ?_⟩
    · rw [List.mem_singleton.1 hy]
      exact h
    · unfold E1.Form at h
      simp only [qty, cst]
      unfold Amt
      split <;> omega
def at_ (x : SL) : List SL → Nat
  | [] => 0
  | y :: ys => if Lt y x then at_ x ys + 1 else 0
theorem at_le (x : SL) : ∀ l : List SL, at_ x l ≤ l.length
  | [] => Nat.le_refl _
  | y :: ys => by
    simp only [at_, List.length_cons]
    split
    · have := at_le x ys
      omega
    · omega
theorem merge_one (x : SL) : ∀ l : List SL, mergeL l [x] = l.take (at_ x l) ++ [x] ++ l.drop (at_ x l)
  | [] => by simp [mergeL, at_]
  | y :: ys => by
    rw [mergeL]
    simp only [at_]
    split
    · rw [merge_one x ys]
      simp
    · rw [merge_nil]
      simp
def openL (l : List SL) (x : SL) : List SL × Int := if impl_LotsOk.ok l = true ∧ E1.Form x then (if impl_LotsOk.ok (mergeL l [x]) = true then (mergeL l [x], 0) else (l, 3)) else ([], 1)
theorem open_len (l : List SL) (x : SL) : (openL l x).1.length ≤ l.length + 1 := by
  unfold openL
  split
  · split
    · show (mergeL l [x]).length ≤ _
      rw [merge_len]
      simp
    · exact Nat.le_succ _
  · exact Nat.zero_le _
theorem open_s (l : List SL) (x : SL) (hl : l.length ≤ 1048576) : Ev (fun k => spec_LotOpen.f k l x.f0 x.f1 x.f2 x.f3 x.f4) (openL l x) := by
  unfold spec_LotOpen.f openL
  have bad : Ev (fun k => spec_LotOpen.j0 k l true x.f0 x.f1 x.f2 x.f3 x.f4) (([] : List SL), (1 : Int)) := Ev_one fun k => by
    simp only [spec_LotOpen.j0]
    rw [if_pos trivial]
  refine Ev_bind (lotsOk_s l) ?_
  by_cases h : impl_LotsOk.ok l = true
  · refine Ev.congr (fun k => by rw [if_pos h, right_s, Option.bind_some]) ?_
    by_cases hf : E1.Form x
    · rw [if_pos ⟨h, hf⟩]
      refine Ev.step (f := fun k => (spec_l5Merge.f k l [x]).bind fun t => (spec_LotsOk.f k t).bind fun t2 => if t2 = true then some (t, 0) else (some (([] : List SL) : List SL)).bind fun y => if y.length + l.length < 3518437208883 then some (y ++ l, 3) else none) (fun k => ?_) ?_
      · rw [decide_eq_true hf]
        simp only [spec_LotOpen.j0]
        rw [if_neg (by decide)]
      · refine Ev_bind (merge_s l [x] (by simp; omega)) (Ev_bind (lotsOk_s _) ?_)
        by_cases ho : impl_LotsOk.ok (mergeL l [x]) = true
        · exact Ev_all_k fun k => by
            rw [if_pos ho, if_pos ho]
        · exact Ev_all_k fun k => by
            rw [if_neg ho, if_neg ho, Option.bind_some, if_pos (by simp; omega), List.nil_append]
    · rw [if_neg fun g => hf g.2]
      exact Ev.congr (fun k => by rw [decide_eq_false hf]; rfl) bad
  · rw [if_neg fun g => h g.1]
    exact Ev.congr (fun k => if_neg h) bad
theorem before_i (x y : SL) : Ev (fun k => impl_lotBefore.f k x.f0 x.f1 x.f2 x.f3 x.f4 y.f0 y.f1 y.f2 y.f3 y.f4) (impl_LotsOk.cmp x y) := by
  have h := impl_LotsOk.cmp_ x y
  refine ⟨1, fun k hk => ?_⟩
  obtain ⟨m, rfl⟩ : ∃ m, k = m + 1 := ⟨k - 1, by omega⟩
  rw [← h]
  unfold impl_lotBefore.f impl_byBoth.f
  simp only [impl_byBoth.j0]
theorem walk_i (l : List SL) (x : SL) (hl : l.length ≤ 1048576) (R : List SL × Int) (hj : Ev (fun k => impl_LotOpen.j2 k l ((at_ x l : Nat) : Int) x.f0 x.f1 x.f2 x.f3 x.f4) R) : Ev (fun k => impl_LotOpen.l0 k l 0 x.f0 x.f1 x.f2 x.f3 x.f4) R := by
  have h : ∀ (n i : Nat), l.length - i = n → i ≤ l.length → at_ x l = i + at_ x (l.drop i) → Ev (fun k => impl_LotOpen.l0 k l (i : Int) x.f0 x.f1 x.f2 x.f3 x.f4) R := by
    intro n
    induction n with
    | zero =>
      intro i hn hi he
      have e : l.drop i = [] := List.drop_eq_nil_of_le (by omega)
      rw [e] at he
      have e2 : at_ x l = i := he
      rw [e2] at hj
      refine Ev.step (fun k => ?_) hj
      show impl_LotOpen.l0 (k + 1) l (i : Int) x.f0 x.f1 x.f2 x.f3 x.f4 = _
      simp only [impl_LotOpen.l0]
      rw [if_neg (by omega)]
    | succ n ih =>
      intro i hn hi he
      have h1 : i < l.length := by omega
      rw [drop_getD z37 l i h1] at he
      simp only [at_] at he
      refine Ev.step (f := fun k => (impl_lotBefore.f k (l.getD i z37).f0 (l.getD i z37).f1 (l.getD i z37).f2 (l.getD i z37).f3 (l.getD i z37).f4 x.f0 x.f1 x.f2 x.f3 x.f4).bind fun t => if t < 0 then impl_LotOpen.l0 k l ((i + 1 : Nat) : Int) x.f0 x.f1 x.f2 x.f3 x.f4 else impl_LotOpen.j2 k l (i : Int) x.f0 x.f1 x.f2 x.f3 x.f4) (fun k => ?_) (Ev_bind (before_i _ x) ?_)
      · show impl_LotOpen.l0 (k + 1) l (i : Int) x.f0 x.f1 x.f2 x.f3 x.f4 = _
        simp only [impl_LotOpen.l0]
        rw [if_pos (by omega), if_pos (by omega), w_succ h1 (by omega)]
        simp only [rdL]
      · have hc := cmp_neg (l.getD i z37) x
        by_cases hlt : Lt (l.getD i z37) x
        · rw [if_pos hlt] at he
          refine Ev.congr (fun k => if_pos (by have h2 : ¬(0 ≤ impl_LotsOk.cmp (l.getD i z37) x) := fun h2 => hc.1 h2 hlt; omega)) (ih (i + 1) (by omega) (by omega) (by omega))
        · rw [if_neg hlt] at he
          have e2 : at_ x l = i := by omega
          rw [e2] at hj
          exact Ev.congr (fun k => if_neg (by have h2 := hc.2 hlt; omega)) hj
  exact h l.length 0 (by omega) (Nat.zero_le _) (by rw [List.drop_zero]; omega)
theorem open_i (l : List SL) (x : SL) (hl : l.length ≤ 1048576) : Ev (fun k => impl_LotOpen.f k l x.f0 x.f1 x.f2 x.f3 x.f4) (openL l x) := by
  unfold impl_LotOpen.f openL
  have bad : Ev (fun k => impl_LotOpen.j0 k l true x.f0 x.f1 x.f2 x.f3 x.f4) (([] : List SL), (1 : Int)) := Ev_one fun k => by
    simp only [impl_LotOpen.j0]
    rw [if_pos trivial]
  have okf : ∀ m : List SL, m.length < 1048577 → impl_LotsOk.f m = some (impl_LotsOk.ok m) := fun m h => by
    unfold impl_LotsOk.f
    rw [if_pos h]
  by_cases h : impl_LotsOk.ok l = true
  · have h120 : l.length ≤ 120 := ((ok_iff l).1 h).1
    refine Ev.congr (fun k => by rw [okf l (by omega), Option.bind_some, if_pos h, okf [x] (by simp), Option.bind_some, ok_one]) ?_
    by_cases hf : E1.Form x
    · rw [if_pos ⟨h, hf⟩]
      refine Ev.step (f := fun k => impl_LotOpen.l0 k l 0 x.f0 x.f1 x.f2 x.f3 x.f4) (fun k => ?_) (walk_i l x hl _ (Ev_one fun k => ?_))
      · rw [decide_eq_true hf]
        simp only [impl_LotOpen.j0]
        rw [if_neg (by decide)]
      · have ha := at_le x l
        have c1 : impl_Lot_55.f l = some l := by
          unfold impl_Lot_55.f
          rw [Option.bind_some, if_pos (by simp; omega), List.nil_append]
        have c2 : impl_Lot_54.f l ((at_ x l : Nat) : Int) [x] = some (mergeL l [x]) := by
          unfold impl_Lot_54.f
          rw [if_pos ⟨by omega, by omega, rfl, by omega⟩, merge_one, Int.toNat_natCast]
        show impl_LotOpen.j2 (k + 1) l ((at_ x l : Nat) : Int) x.f0 x.f1 x.f2 x.f3 x.f4 = _
        simp only [impl_LotOpen.j2]
        rw [c1, Option.bind_some]
        show ((impl_Lot_54.f l ((at_ x l : Nat) : Int) [x]).bind _) = _
        rw [c2, Option.bind_some, okf _ (by rw [merge_len]; simp; omega), Option.bind_some]
        by_cases ho : impl_LotsOk.ok (mergeL l [x]) = true
        · rw [if_pos ho, if_pos ho]
        · rw [if_neg ho, if_neg ho]
          rfl
    · rw [if_neg fun g => hf g.2]
      exact Ev.congr (fun k => by rw [decide_eq_false hf]; rfl) bad
  · rw [if_neg fun g => h g.1]
    exact Ev.congr (fun k => by rw [okf l (by omega), Option.bind_some, if_neg h]) bad
end Go.Proofs.Ytomanpmffjkkgaa.E4
namespace Go.Proofs.Ytomanpmffjkkgaa.P
open Go.RowKit Go.Proofs.YtomanpmffjkkgaaW.PrintWords Go.Proofs.YtomanpmffjkkgaaW.PrintLast Go.Proofs.YtomanpmffjkkgaaW.PrintMore
attribute [local go_sem] max2_int min2_int max_two min_two max_three min_three max_four min_four   -- for this text's walks alone
set_option linter.unusedVariables false
set_option linter.unusedSimpArgs false
instance impl_Lot_67.inh : Inhabited (S37) := ⟨z37⟩
instance : Inhabited (S37) := ⟨z37⟩
def impl_withLots.uniq (l : List (S37)) : Prop := ∀ x ∈ l, ∀ y ∈ l, x.f0 = y.f0 ∧ x.f1 = y.f1 ∧ x.f2 = y.f2 → x.f3 = y.f3 ∧ x.f4 = y.f4
instance (l : List (S37)) : Decidable (impl_withLots.uniq l) := by unfold impl_withLots.uniq; exact inferInstance
end Go.Proofs.Ytomanpmffjkkgaa.P
namespace Go.Proofs.Ytomanpmffjkkgaa.E5
open Go Go.RowKit Go.Proofs.Ytomanpmffjkkgaa.P Go.Proofs.YtomanpmffjkkgaaW.PrintWords Go.Proofs.YtomanpmffjkkgaaW.PrintLast Go.Proofs.Ytomanpmffjkkgaa.EV Go.Proofs.Ytomanpmffjkkgaa.I1 Go.Proofs.Ytomanpmffjkkgaa.N1 Go.Proofs.Ytomanpmffjkkgaa.E1 Go.Proofs.Ytomanpmffjkkgaa.E2 Go.Proofs.Ytomanpmffjkkgaa.E3
theorem chn_pw : ∀ (l : List SL) (y : SL), Chn (some y) l → (y :: l).Pairwise Lt
  | [], y, _ => by simp
  | x :: xs, y, h => by
    have ih := chn_pw xs x h.2
    refine List.pairwise_cons.2 ⟨fun z hz => ?_, ih⟩
    exact Chn.all h z hz
theorem right_pw {l : List SL} (h : Chn none l) : l.Pairwise Lt := by
  cases l with
  | nil => exact List.Pairwise.nil
  | cons x xs => exact chn_pw xs x h
theorem merge_perm : ∀ (xs ys : List SL), (mergeL xs ys).Perm (xs ++ ys)
  | [], ys => by rw [nil_merge]; exact List.Perm.refl _
  | x :: xs, [] => by rw [merge_nil, List.append_nil]
  | x :: xs, y :: ys => by
    rw [mergeL]
    split
    · exact (merge_perm xs (y :: ys)).cons x
    · refine ((merge_perm (x :: xs) ys).cons y).trans ?_
      exact (List.perm_middle (l₁ := x :: xs) (l₂ := ys) (a := y)).symm
termination_by xs ys => xs.length + ys.length
end Go.Proofs.Ytomanpmffjkkgaa.E5
namespace Go.Proofs.Ytomanpmffjkkgaa.A2
open Go Go.RowKit Go.Proofs.Ytomanpmffjkkgaa.P Go.Proofs.YtomanpmffjkkgaaW.PrintWords Go.Proofs.YtomanpmffjkkgaaW.PrintLast Go.Proofs.YtomanpmffjkkgaaW.PrintMore Go.Proofs.Ytomanpmffjkkgaa.EV Go.Proofs.Ytomanpmffjkkgaa.L1 Go.Proofs.Ytomanpmffjkkgaa.I1
def mdOk (a b c : Int) : Prop := (0 ≤ a ∧ a ≤ 1000000000000000) ∧ (0 ≤ b ∧ b ≤ 1000000000000000) ∧ (1 ≤ c ∧ c ≤ 1000000000000000) ∧ a * b / c ≤ 1000000000000000
instance (a b c : Int) : Decidable (mdOk a b c) := by unfold mdOk; exact inferInstance
end Go.Proofs.Ytomanpmffjkkgaa.A2
namespace Go.Proofs.Ytomanpmffjkkgaa.E6
open Go Go.RowKit Go.Proofs.Ytomanpmffjkkgaa.P Go.Proofs.YtomanpmffjkkgaaW.PrintWords Go.Proofs.YtomanpmffjkkgaaW.PrintLast Go.Proofs.Ytomanpmffjkkgaa.EV Go.Proofs.Ytomanpmffjkkgaa.I1 Go.Proofs.Ytomanpmffjkkgaa.N1 Go.Proofs.Ytomanpmffjkkgaa.E1 Go.Proofs.Ytomanpmffjkkgaa.E2 Go.Proofs.Ytomanpmffjkkgaa.E3 Go.Proofs.Ytomanpmffjkkgaa.E4 Go.Proofs.Ytomanpmffjkkgaa.E5
def tot : List SL → Int
  | [] => 0
  | x :: xs => x.f3 + tot xs
def all4 : List SL → Int
  | [] => 0
  | x :: xs => x.f4 + all4 xs
end Go.Proofs.Ytomanpmffjkkgaa.E6
namespace Go.Proofs.Ytomanpmffjkkgaa.E7
open Go Go.RowKit Go.Proofs.Ytomanpmffjkkgaa.P Go.Proofs.YtomanpmffjkkgaaW.PrintWords Go.Proofs.YtomanpmffjkkgaaW.PrintLast Go.Proofs.Ytomanpmffjkkgaa.EV Go.Proofs.Ytomanpmffjkkgaa.I1 Go.Proofs.Ytomanpmffjkkgaa.N1 Go.Proofs.Ytomanpmffjkkgaa.E1 Go.Proofs.Ytomanpmffjkkgaa.E2 Go.Proofs.Ytomanpmffjkkgaa.E3 Go.Proofs.Ytomanpmffjkkgaa.E4 Go.Proofs.Ytomanpmffjkkgaa.E5 Go.Proofs.Ytomanpmffjkkgaa.E6
theorem sums_t : ∀ (m : List SL) (q c : Int), (∀ x ∈ m, E1.Form x) → 0 ≤ q → 0 ≤ c → q + m.length * 1000000000000000 ≤ 9000000000000000000 → c + m.length * 1000000000000000 ≤ 9000000000000000000 →
    impl_LotsOk.sum3 m q = q + tot m ∧ impl_LotsOk.sum4 m c = c + all4 m
  | [], q, c, _, _, _, _, _ => by simp [impl_LotsOk.sum3, impl_LotsOk.sum4, tot, all4]
  | x :: xs, q, c, hf, h0, h1, h2, h3 => by
    have hx := hf x (List.mem_cons_self ..)
    unfold E1.Form at hx
    simp only [List.length_cons] at h2 h3
    have ih := sums_t xs (q + x.f3) (c + x.f4) (fun y hy => hf y (List.mem_cons_of_mem _ hy)) (by omega) (by omega) (by omega) (by omega)
    simp only [impl_LotsOk.sum3, impl_LotsOk.sum4, List.foldl_cons, tot, all4] at ih ⊢
    rw [w64_in (q + x.f3) (by omega) (by omega), w64_in (c + x.f4) (by omega) (by omega), ih.1, ih.2]
    omega
theorem tot_of (a b : Int) : ∀ l : List SL, tot (ofL a b l) = qty a b l ∧ all4 (ofL a b l) = cst a b l
  | [] => ⟨rfl, rfl⟩
  | x :: xs => by
    have ih := tot_of a b xs
    unfold ofL at *
    by_cases h : x.f0 = a ∧ x.f1 = b
    · rw [List.filter_cons_of_pos (by unfold Own; exact decide_eq_true h)]
      simp only [tot, all4, qty, cst]
      rw [if_pos h, if_pos h, ih.1, ih.2]
      exact ⟨rfl, rfl⟩
    · rw [List.filter_cons_of_neg (by unfold Own; rw [decide_eq_false h]; decide)]
      simp only [qty, cst]
      rw [if_neg h, if_neg h, ih.1, ih.2]
      omega
structure Own' (a b : Int) (own : List SL) : Prop where
  len : own.length ≤ 120
  form : ∀ x ∈ own, E1.Form x
  key : ∀ x ∈ own, x.f0 = a ∧ x.f1 = b
  pw : own.Pairwise Lt
  tot1 : tot own ≤ 1000000000000000
  all1 : all4 own ≤ 1000000000000000
theorem own_of {l : List SL} (h : E1.Right l) (a b : Int) : Own' a b (ofL a b l) where
  len := by have := of_len a b l; have := h.1; omega
  form x hx := h.2.1 x (List.mem_filter.1 hx).1
  key x hx := of_decide_eq_true (List.mem_filter.1 hx).2
  pw := (right_pw h.2.2.1).filter _
  tot1 := by rw [(tot_of a b l).1]; exact (h.2.2.2 a b).1.2
  all1 := by rw [(tot_of a b l).2]; exact (h.2.2.2 a b).2.2
theorem all4_pos : ∀ {m : List SL}, (∀ y ∈ m, E1.Form y) → 0 ≤ all4 m ∧ 0 ≤ tot m
  | [], _ => ⟨Int.le_refl _, Int.le_refl _⟩
  | z :: zs, hm => by
    have h4 := hm z (List.mem_cons_self ..)
    have h5 := all4_pos (m := zs) fun y hy => hm y (List.mem_cons_of_mem _ hy)
    unfold E1.Form at h4
    simp only [all4, tot]
    omega
end Go.Proofs.Ytomanpmffjkkgaa.E7
namespace Go.Proofs.Ytomanpmffjkkgaa.E8
open Go Go.RowKit Go.Proofs.Ytomanpmffjkkgaa.P Go.Proofs.YtomanpmffjkkgaaW.PrintWords Go.Proofs.YtomanpmffjkkgaaW.PrintLast Go.Proofs.Ytomanpmffjkkgaa.EV Go.Proofs.Ytomanpmffjkkgaa.I1 Go.Proofs.Ytomanpmffjkkgaa.N1 Go.Proofs.Ytomanpmffjkkgaa.E1 Go.Proofs.Ytomanpmffjkkgaa.E2 Go.Proofs.Ytomanpmffjkkgaa.E3 Go.Proofs.Ytomanpmffjkkgaa.E4 Go.Proofs.Ytomanpmffjkkgaa.E5 Go.Proofs.Ytomanpmffjkkgaa.E6 Go.Proofs.Ytomanpmffjkkgaa.E7
theorem lots_of_right {l : List SL} (h : E1.Right l) (a b : Int) : lotsL l a b = ofL a b l ∧ impl_LotsOk.sum3 (lotsL l a b) 0 = tot (ofL a b l) ∧ impl_LotsOk.sum4 (lotsL l a b) 0 = all4 (ofL a b l) := by
  have e : lotsL l a b = ofL a b l := by
    unfold lotsL
    rw [if_pos ((ok_iff l).2 h)]
  have hO := own_of h a b
  have hs := sums_t (ofL a b l) 0 0 hO.form (by omega) (by omega) (by have := hO.len; omega) (by have := hO.len; omega)
  rw [e, hs.1, hs.2, Int.zero_add, Int.zero_add]
  exact ⟨rfl, rfl, rfl⟩
theorem qty_ri (l : List SL) (a b : Int) (hl : l.length ≤ 1048576) : Ev (fun k => impl_LotsQty.f k l a b) (impl_LotsOk.sum3 (lotsL l a b) 0) := by
  unfold impl_LotsQty.f
  have := lots_len l a b
  exact Ev_bind (Ev_all_k fun k => lotsOf_i l a b hl) (Ev_bind (sums_i _ (by omega)) (Ev_all_k fun k => rfl))
theorem cost_ri (l : List SL) (a b : Int) (hl : l.length ≤ 1048576) : Ev (fun k => impl_LotsCost.f k l a b) (impl_LotsOk.sum4 (lotsL l a b) 0) := by
  unfold impl_LotsCost.f
  have := lots_len l a b
  exact Ev_bind (Ev_all_k fun k => lotsOf_i l a b hl) (Ev_bind (sums_i _ (by omega)) (Ev_all_k fun k => rfl))
end Go.Proofs.Ytomanpmffjkkgaa.E8
namespace Go.Proofs.Ytomanpmffjkkgaa.D5
open Go Go.RowKit Go.Proofs.Ytomanpmffjkkgaa.P Go.Proofs.YtomanpmffjkkgaaW.PrintWords Go.Proofs.YtomanpmffjkkgaaW.PrintLast Go.Proofs.Ytomanpmffjkkgaa.EV Go.Proofs.Ytomanpmffjkkgaa.D1 Go.Proofs.Ytomanpmffjkkgaa.I1 Go.Proofs.Ytomanpmffjkkgaa.N1 Go.Proofs.Ytomanpmffjkkgaa.E1 Go.Proofs.Ytomanpmffjkkgaa.E2 Go.Proofs.Ytomanpmffjkkgaa.E4
theorem below_any (b : List Int) (i h n : Int) (hv : V b i) : ∃ x i' h', spec_l1Below.f b i h n = some (x, i', h') ∧ 0 ≤ x ∧ (0 < n → x < n) ∧ V b i' := by
  unfold spec_l1Below.f
  by_cases h0 : n ≤ 0
  · rw [if_pos h0]
    exact ⟨_, _, _, rfl, by omega, fun h => by omega, hv⟩
  · rw [if_neg h0]
    by_cases h1 : n ≤ 256
    · rw [if_pos h1]
      obtain ⟨x, i1, g1, e1, x0, x1, v1⟩ := byte_ok b i h hv
      rw [e1, Option.bind_some, if_neg (by omega)]
      refine ⟨_, _, _, rfl, ?_, fun _ => ?_, v1⟩
      · show 0 ≤ Int.tmod x n
        rw [Int.tmod_eq_emod_of_nonneg x0]
        exact Int.emod_nonneg _ (by omega)
      · show Int.tmod x n < n
        rw [Int.tmod_eq_emod_of_nonneg x0]
        exact Int.emod_lt_of_pos _ (by omega)
    · rw [if_neg h1]
      obtain ⟨x, i1, g1, e1, x0, x1, v1⟩ := byte_ok b i h hv
      rw [e1, Option.bind_some]
      obtain ⟨y, i2, g2, e2, y0, y1, v2⟩ := byte_ok b i1 g1 v1
      simp only [e2, Option.bind_some]
      obtain ⟨z, i3, g3, e3, z0, z1, v3⟩ := byte_ok b i2 g2 v2
      simp only [e3, Option.bind_some]
      obtain ⟨u, i4, g4, e4, u0, u1, v4⟩ := byte_ok b i3 g3 v3
      simp only [e4, Option.bind_some]
      rw [if_neg (by omega), w64_in (x * 16777216) (by omega) (by omega), w64_in (y * 65536) (by omega) (by omega), w64_in (z * 256) (by omega) (by omega),
        w64_in (x * 16777216 + y * 65536) (by omega) (by omega), w64_in (x * 16777216 + y * 65536 + z * 256) (by omega) (by omega), w64_in (x * 16777216 + y * 65536 + z * 256 + u) (by omega) (by omega)]
      refine ⟨_, _, _, rfl, ?_, fun _ => ?_, v4⟩
      · rw [Int.tmod_eq_emod_of_nonneg (by omega)]
        exact Int.emod_nonneg _ (by omega)
      · rw [Int.tmod_eq_emod_of_nonneg (by omega)]
        exact Int.emod_lt_of_pos _ (by omega)
theorem drawNo_any (b : List Int) (i h : Int) (hv : V b i) : ∃ x i' h', spec_l3DrawNo.f b i h = some (x, i', h') ∧ V b i' := by
  unfold spec_l3DrawNo.f
  obtain ⟨x, i1, g1, e1, v1⟩ := once_ok b i h 15 hv (by decide)
  rw [e1, Option.bind_some]
  cases x with
  | true =>
    obtain ⟨y, i2, g2, e2, _, v2⟩ := pick_ok b i1 g1 [0, (-1), 1000, 1001] v1 (by decide) (by decide)
    refine ⟨y, i2, g2, ?_, v2⟩
    dsimp only
    rw [if_pos rfl, e2]
    rfl
  | false =>
    obtain ⟨y, i2, g2, e2, _, _, _, v2⟩ := below_ok b i1 g1 9 v1 (by decide)
    refine ⟨wrap64 (1 + y), i2, g2, ?_, v2⟩
    dsimp only
    rw [if_neg (by decide), e2]
    rfl
theorem lots_e (b : List Int) (n i : Int) (l : List SL) (c h : Int) (hin : ¬ i < n) (hl : l.length ≤ 1000) (hv : V b c) : ∃ r c' h', (∀ k, spec_l5DrawLots.l0 (k + 1) l n i b c h = some (r, c', h')) ∧ r.length ≤ 1001 ∧ V b c' := by
  obtain ⟨x, i1, g1, e1, _, _, v1⟩ := below_any b c h 25 hv
  by_cases h0 : x = 0
  · by_cases h2 : (l.length : Int) > 0
    · obtain ⟨y, i2, g2, e2, _, v2⟩ := pick_ok b i1 g1 [0, (-1), 1000000000000000, 1000000000000001] v1 (by decide) (by decide)
      refine ⟨l.set (0 : Int).toNat (⟨(rd_T37 l 0).f0, (rd_T37 l 0).f1, (rd_T37 l 0).f2, y, (rd_T37 l 0).f4⟩ : SL), i2, g2, fun k => ?_, by rw [List.length_set]; omega, v2⟩
      simp only [spec_l5DrawLots.l0]
      rw [if_neg hin, e1, Option.bind_some, if_pos h0, if_pos h2, e2, Option.bind_some, if_pos (by omega)]
    · refine ⟨l, i1, g1, fun k => ?_, by omega, v1⟩
      simp only [spec_l5DrawLots.l0]
      rw [if_neg hin, e1, Option.bind_some, if_pos h0, if_neg h2]
  · by_cases h1 : x = 1
    · obtain ⟨y, i2, g2, e2, v2⟩ := drawNo_any b i1 g1 v1
      obtain ⟨z, i3, g3, e3, _, _, v3⟩ := below_any b i2 g2 3 v2
      refine ⟨l ++ [⟨y, 1, z, 1, 0⟩], i3, g3, fun k => ?_, by simp; omega, v3⟩
      simp only [spec_l5DrawLots.l0]
      rw [if_neg hin, e1, Option.bind_some, if_neg h0, if_pos h1]
      simp only [e2, e3, Option.bind_some]
      rw [if_pos (by omega)]
    · refine ⟨l, i1, g1, fun k => ?_, by omega, v1⟩
      simp only [spec_l5DrawLots.l0]
      rw [if_neg hin, e1, Option.bind_some, if_neg h0, if_neg h1]
theorem lots_l (b : List Int) (n : Int) (hn : n ≤ 120) : ∀ (d : Nat) (i : Int) (l : List SL) (c h : Int), (n - i).toNat = d → 0 ≤ i → (l.length : Int) ≤ i → i ≤ n ∨ i = 0 → V b c → ∃ r c' h', Ev (fun k => spec_l5DrawLots.l0 k l n i b c h) (r, c', h') ∧ r.length ≤ 1001 ∧ V b c' := by
  intro d
  induction d with
  | zero =>
    intro i l c h hd hi hl hin hv
    obtain ⟨r, c', h', hr, h2, h3⟩ := lots_e b n i l c h (by omega) (by omega) hv
    exact ⟨r, c', h', Ev_one hr, h2, h3⟩
  | succ d ih =>
    intro i l c h hd hi hl hin hv
    have hw2 : wrap64 (i + 1) = i + 1 := w64_in _ (by omega) (by omega)
    obtain ⟨x, i1, g1, e1, _, _, v1⟩ := below_any b c h 3 hv
    obtain ⟨y, i2, g2, e2, _, _, v2⟩ := below_any b i1 g1 2 v1
    obtain ⟨z, i3, g3, e3, _, _, v3⟩ := below_any b i2 g2 (wrap64 (20 + (wrap64 (2 * n)))) v2
    obtain ⟨u, i4, g4, e4, _, _, v4⟩ := below_any b i3 g3 30 v3
    obtain ⟨v, i5, g5, e5, _, _, v5⟩ := below_any b i4 g4 500 v4
    obtain ⟨o, ho⟩ : ∃ o, o = openL l ⟨wrap64 (1 + x), wrap64 (1 + y), wrap64 (1 + z), wrap64 (1 + u), v⟩ := ⟨_, rfl⟩
    have hp : Ev (fun k => spec_LotOpen.f k l (wrap64 (1 + x)) (wrap64 (1 + y)) (wrap64 (1 + z)) (wrap64 (1 + u)) v) o := by rw [ho]; exact open_s l ⟨wrap64 (1 + x), wrap64 (1 + y), wrap64 (1 + z), wrap64 (1 + u), v⟩ (by omega)
    have hol : o.1.length ≤ l.length + 1 := by rw [ho]; exact open_len _ _
    have e : ∀ k, spec_l5DrawLots.l0 (k + 1) l n i b c h = (spec_LotOpen.f k l (wrap64 (1 + x)) (wrap64 (1 + y)) (wrap64 (1 + z)) (wrap64 (1 + u)) v).bind fun t => if t.2 = 0 then spec_l5DrawLots.l0 k t.1 n (i + 1) b i5 g5 else spec_l5DrawLots.l0 k l n (i + 1) b i5 g5 := by
      intro k
      simp only [spec_l5DrawLots.l0]
      rw [if_pos (by omega), e1, Option.bind_some]
      simp only [e2, e3, e4, e5, Option.bind_some, hw2]
    by_cases ho2 : o.2 = 0
    · obtain ⟨r, c', h', hr, h2, h3⟩ := ih (i + 1) o.1 i5 g5 (by omega) (by omega) (by omega) (by omega) v5
      exact ⟨r, c', h', Ev.step e (Ev_bind hp (Ev.congr (fun k => if_pos ho2) hr)), h2, h3⟩
    · obtain ⟨r, c', h', hr, h2, h3⟩ := ih (i + 1) l i5 g5 (by omega) (by omega) (by omega) (by omega) v5
      exact ⟨r, c', h', Ev.step e (Ev_bind hp (Ev.congr (fun k => if_neg ho2) hr)), h2, h3⟩
theorem lots_ok (b : List Int) (i h : Int) (hv : V b i) : ∃ r i' h', Ev (fun k => spec_l5DrawLots.f k b i h) (r, i', h') ∧ r.length ≤ 1001 ∧ V b i' := by
  unfold spec_l5DrawLots.f
  obtain ⟨x, i1, g1, e1, x0, x1, v1⟩ := below_any b i h 12 hv
  obtain ⟨y, i2, g2, e2, v2⟩ := once_ok b i1 g1 20 v1 (by decide)
  cases y with
  | true =>
    obtain ⟨r, c', h', hr, h2, h3⟩ := lots_l b 120 (by decide) _ 0 [] i2 g2 rfl (by decide) (by decide) (.inr rfl) v2
    have hj : Ev (fun k => spec_l5DrawLots.j0 k [] 120 b i2 g2) (r, c', h') := Ev.step (fun k => by simp only [spec_l5DrawLots.j0]) hr
    exact ⟨r, c', h', Ev.congr (fun k => by rw [Option.bind_some, e1, Option.bind_some]; simp only [e2, Option.bind_some, if_true]) hj, h2, h3⟩
  | false =>
    obtain ⟨r, c', h', hr, h2, h3⟩ := lots_l b x (by have := x1 (by decide); omega) _ 0 [] i2 g2 rfl (by decide) (by decide) (.inr rfl) v2
    have hj : Ev (fun k => spec_l5DrawLots.j0 k [] x b i2 g2) (r, c', h') := Ev.step (fun k => by simp only [spec_l5DrawLots.j0]) hr
    exact ⟨r, c', h', Ev.congr (fun k => by rw [Option.bind_some, e1, Option.bind_some]; simp only [e2, Option.bind_some, Bool.false_eq_true, if_false]) hj, h2, h3⟩
theorem drawOpen_ok (l : List Int) (hl : l.length ≤ 140737488351232) : ∃ r x0 x1 x2 x3 x4, Ev (fun k => spec_DrawLotOpen.f k l) (r, x0, x1, x2, x3, x4) ∧ r.length ≤ 1001 := by
  unfold spec_DrawLotOpen.f
  obtain ⟨h, hn⟩ := new_ok l hl
  have hv : V l 0 := ⟨by omega, by omega, hl⟩
  obtain ⟨r, i1, g1, hr, h2, v1⟩ := lots_ok l 0 h hv
  obtain ⟨x, i2, g2, e2, _, _, v2⟩ := below_any l i1 g1 3 v1
  obtain ⟨y, i3, g3, e3, _, _, v3⟩ := below_any l i2 g2 2 v2
  obtain ⟨z, i4, g4, e4, _, _, v4⟩ := below_any l i3 g3 30 v3
  obtain ⟨u, i5, g5, e5, _, _, v5⟩ := below_any l i4 g4 30 v4
  obtain ⟨v, i6, g6, e6, _, _, v6⟩ := below_any l i5 g5 500 v5
  obtain ⟨s, i7, g7, e7, _, _, v7⟩ := below_any l i6 g6 15 v6
  by_cases h0 : s = 0
  · obtain ⟨p, i8, g8, e8, _, v8⟩ := pick_ok l i7 g7 [0, 1000000000000000, 1000000000000001] v7 (by decide) (by decide)
    exact ⟨r, wrap64 (1 + x), wrap64 (1 + y), wrap64 (1 + z), p, v, Ev_bind hn (Ev_bind hr (Ev_all_k fun k => by simp only [e2, e3, e4, e5, e6, e7, Option.bind_some]; rw [if_pos h0, e8, Option.bind_some])), h2⟩
  · by_cases h1 : s = 1
    · obtain ⟨p, i8, g8, e8, _, v8⟩ := pick_ok l i7 g7 [0, 1000000000, 1000000001] v7 (by decide) (by decide)
      exact ⟨r, wrap64 (1 + x), wrap64 (1 + y), p, wrap64 (1 + u), v, Ev_bind hn (Ev_bind hr (Ev_all_k fun k => by simp only [e2, e3, e4, e5, e6, e7, Option.bind_some]; rw [if_neg h0, if_pos h1, e8, Option.bind_some])), h2⟩
    · have no : ¬(s = 2 ∧ (r.length : Int) > 0) → Ev (fun k => spec_DrawLotOpen.f k l) (r, wrap64 (1 + x), wrap64 (1 + y), wrap64 (1 + z), wrap64 (1 + u), v) := fun h3 => by
        unfold spec_DrawLotOpen.f
        refine Ev_bind hn (Ev_bind hr (Ev_all_k fun k => ?_))
        simp only [e2, e3, e4, e5, e6, e7, Option.bind_some]
        rw [if_neg h0, if_neg h1]
        by_cases h4 : s = 2
        · rw [if_pos h4, if_neg fun g => h3 ⟨h4, g⟩]
        · rw [if_neg h4]
      by_cases h3 : s = 2 ∧ (r.length : Int) > 0
      · obtain ⟨p, i8, g8, e8, p0, p1, v8⟩ := below_any l i7 g7 (r.length : Int) v7
        have p2 := p1 h3.2
        exact ⟨r, _, _, _, _, _, Ev_bind hn (Ev_bind hr (Ev_all_k fun k => by simp only [e2, e3, e4, e5, e6, e7, Option.bind_some]; rw [if_neg h0, if_neg h1, if_pos h3.1, if_pos h3.2, e8, Option.bind_some, if_pos p0, if_pos p2])), h2⟩
      · have hh := no h3
        unfold spec_DrawLotOpen.f at hh
        exact ⟨r, _, _, _, _, _, hh, h2⟩
theorem qty_r (l : List SL) (a b : Int) (hl : l.length ≤ 1048576) : Ev (fun k => spec_LotsQty.f k l a b) (impl_LotsOk.sum3 (lotsL l a b) 0) := by
  unfold spec_LotsQty.f
  have := lots_len l a b
  refine Ev_bind (lotsOf_s l a b hl) ?_
  first
  | exact qty_s _ (by omega)
  | exact Ev_bind (qty_s _ (by omega)) (Ev_all_k fun k => rfl)
theorem cost_r (l : List SL) (a b : Int) (hl : l.length ≤ 1048576) : Ev (fun k => spec_LotsCost.f k l a b) (impl_LotsOk.sum4 (lotsL l a b) 0) := by
  unfold spec_LotsCost.f
  have := lots_len l a b
  refine Ev_bind (lotsOf_s l a b hl) ?_
  first
  | exact cost_s _ (by omega)
  | exact Ev_bind (cost_s _ (by omega)) (Ev_all_k fun k => rfl)
theorem same_lots (l : List SL) (hl : l.length ≤ 9223372036854775807) : Ev (fun k => laws_sameLots.f k l l) true := by
  unfold laws_sameLots.f
  refine Ev.congr (fun k => if_pos rfl) ?_
  refine Ev_goes (fun k (_ : Unit) i => laws_sameLots.l0 k l l i) l.length (fun _ _ => true) (fun _ _ => True)
    (fun _ _ => Ev_one fun k => by
      simp only [laws_sameLots.l0]
      rw [if_neg (by omega)])
    (fun i _ hi _ => .inr ⟨(), trivial, rfl, fun k => by
      show laws_sameLots.l0 (k + 1) l l (i : Int) = _
      simp only [laws_sameLots.l0]
      rw [if_pos (by omega), if_pos (by omega), if_pos (by omega), w_succ hi (by omega)]
      simp⟩) l.length 0 () (by omega) (by omega) trivial
end Go.Proofs.Ytomanpmffjkkgaa.D5
namespace Go.Proofs.Ytomanpmffjkkgaa.Pure
open Go Go.RowKit Go.Proofs.Ytomanpmffjkkgaa.P Go.Proofs.YtomanpmffjkkgaaW.PrintWords Go.Proofs.YtomanpmffjkkgaaW.PrintLast Go.Proofs.Ytomanpmffjkkgaa.EV Go.Proofs.Ytomanpmffjkkgaa.I1 Go.Proofs.Ytomanpmffjkkgaa.N1 Go.Proofs.Ytomanpmffjkkgaa.E1 Go.Proofs.Ytomanpmffjkkgaa.E2 Go.Proofs.Ytomanpmffjkkgaa.E3 Go.Proofs.Ytomanpmffjkkgaa.E4 Go.Proofs.Ytomanpmffjkkgaa.E5 Go.Proofs.Ytomanpmffjkkgaa.E6 Go.Proofs.Ytomanpmffjkkgaa.E7 Go.Proofs.Ytomanpmffjkkgaa.E8 Go.Proofs.Ytomanpmffjkkgaa.D5
theorem getD_pos (l : List SL) (i : Nat) (h : i < l.length) : l.getD i z37 = l[i] := by
  rw [List.getD_eq_getElem?_getD, List.getElem?_eq_getElem h, Option.getD_some]
theorem opened_loop {own : List SL} {x : SL} (hl : own.length ≤ 1000) (hw : own.Pairwise Lt) (hk : ∀ y ∈ own, y.f0 = x.f0 ∧ y.f1 = x.f1) (hx : x ∈ own) :
    Ev (fun k => laws_FnOpened.l0 k own (-1) (-1) 0 x.f0 x.f1 x.f2 x.f3 x.f4) true := by
  obtain ⟨p, hp, hpx⟩ := List.getElem_of_mem hx
  have hpw := List.pairwise_iff_getElem.1 hw
  have hm : ∀ i (h : i < own.length), own[i].f0 = x.f0 ∧ own[i].f1 = x.f1 := fun i h => hk _ (List.getElem_mem h)
  have lo : ∀ i, (h : i < own.length) → i < p → own[i].f2 < x.f2 := fun i h h2 => by
    have h3 := hpw i p h hp h2
    have h4 := hm i h
    rw [hpx] at h3
    unfold Lt at h3
    omega
  have hi_ : ∀ i, (h : i < own.length) → p < i → x.f2 < own[i].f2 := fun i h h2 => by
    have h3 := hpw p i hp h h2
    have h4 := hm i h
    rw [hpx] at h3
    unfold Lt at h3
    omega
  have key : ∀ (n i : Nat) (s t : Int), own.length - i = n → i ≤ own.length → ((i ≤ p ∧ s = -1 ∧ t = -1) ∨ (i = p + 1 ∧ s = p ∧ t = -1) ∨ (p + 1 < i ∧ s = p ∧ t = p + 1)) → Ev (fun k => laws_FnOpened.l0 k own s t (i : Int) x.f0 x.f1 x.f2 x.f3 x.f4) true := by
    intro n
    induction n with
    | zero =>
      intro i s t hn hi hst
      have e : i = own.length := by omega
      exact Ev_one fun k => by
        simp only [laws_FnOpened.l0]
        rw [if_neg (by omega)]
        rcases hst with ⟨h1, _, _⟩ | ⟨h1, rfl, rfl⟩ | ⟨h1, rfl, rfl⟩
        · omega
        · rw [if_pos (by omega), if_pos (by omega)]
        · rw [if_pos (by omega), if_neg (by omega), w_succ hp (by omega)]
          simp
    | succ n ih =>
      intro i s t hn hi hst
      have h1 : i < own.length := by omega
      obtain ⟨y, hy⟩ : ∃ y, y = own[i] := ⟨_, rfl⟩
      have hg : own.getD i z37 = y := by rw [hy]; exact getD_pos own i h1
      have hym := hm i h1
      rw [← hy] at hym
      rcases hst with ⟨h2, rfl, rfl⟩ | ⟨h2, rfl, rfl⟩ | ⟨h2, rfl, rfl⟩
      · by_cases h3 : i = p
        · have e : y = x := by rw [hy, ← hpx]; simp only [h3]
          refine Ev.step (fun k => ?_) (ih (i + 1) p (-1) (by omega) (by omega) (.inr (.inl ⟨by omega, rfl, rfl⟩)))
          show laws_FnOpened.l0 (k + 1) own (-1) (-1) (i : Int) x.f0 x.f1 x.f2 x.f3 x.f4 = _
          simp only [laws_FnOpened.l0]
          rw [if_pos (by omega), if_pos (by omega), w_succ h1 (by omega)]
          simp only [rdL, hg, e]
          rw [if_pos (by simp), if_neg (by omega), h3]
        · have h4 := lo i h1 (by omega)
          rw [← hy] at h4
          refine Ev.step (fun k => ?_) (ih (i + 1) (-1) (-1) (by omega) (by omega) (.inl ⟨by omega, rfl, rfl⟩))
          show laws_FnOpened.l0 (k + 1) own (-1) (-1) (i : Int) x.f0 x.f1 x.f2 x.f3 x.f4 = _
          simp only [laws_FnOpened.l0]
          rw [if_pos (by omega), if_pos (by omega), w_succ h1 (by omega)]
          simp only [rdL, hg]
          have e2 : (y.f2 == x.f2) = false := by rw [beq_eq_false_iff_ne]; omega
          rw [e2]
          simp only [Bool.false_and, Bool.and_false]
          rw [if_neg (by decide), if_neg (by omega)]
      · have h4 := hi_ i h1 (by omega)
        rw [← hy] at h4
        refine Ev.step (fun k => ?_) (ih (i + 1) p ((p : Int) + 1) (by omega) (by omega) (.inr (.inr ⟨by omega, rfl, rfl⟩)))
        show laws_FnOpened.l0 (k + 1) own (p : Int) (-1) (i : Int) x.f0 x.f1 x.f2 x.f3 x.f4 = _
        simp only [laws_FnOpened.l0]
        rw [if_pos (by omega), if_pos (by omega), w_succ h1 (by omega)]
        simp only [rdL, hg]
        have e2 : (y.f2 == x.f2) = false := by rw [beq_eq_false_iff_ne]; omega
        rw [e2]
        simp only [Bool.false_and, Bool.and_false]
        rw [if_neg (by decide), if_pos (by omega), if_pos (by decide), show (i : Int) = (p : Int) + 1 by omega]
      · have h4 := hi_ i h1 (by omega)
        rw [← hy] at h4
        refine Ev.step (fun k => ?_) (ih (i + 1) p ((p : Int) + 1) (by omega) (by omega) (.inr (.inr ⟨by omega, rfl, rfl⟩)))
        show laws_FnOpened.l0 (k + 1) own (p : Int) ((p : Int) + 1) (i : Int) x.f0 x.f1 x.f2 x.f3 x.f4 = _
        simp only [laws_FnOpened.l0]
        rw [if_pos (by omega), if_pos (by omega), w_succ h1 (by omega)]
        simp only [rdL, hg]
        have e2 : (y.f2 == x.f2) = false := by rw [beq_eq_false_iff_ne]; omega
        rw [e2]
        simp only [Bool.false_and, Bool.and_false]
        rw [if_neg (by decide), if_pos (by omega), if_neg (by omega)]
  exact key own.length 0 (-1) (-1) (by omega) (by omega) (.inl ⟨by omega, rfl, rfl⟩)
theorem opened_own (l : List SL) (x : SL) (a b : Int) : qty a b (mergeL l [x]) = qty a b l + qty a b [x] ∧ cst a b (mergeL l [x]) = cst a b l + cst a b [x] := by
  have h1 := qty_app a b (l.take (at_ x l) ++ [x]) (l.drop (at_ x l))
  have h2 := qty_app a b (l.take (at_ x l)) [x]
  have h3 := qty_app a b (l.take (at_ x l)) (l.drop (at_ x l))
  rw [List.take_append_drop] at h3
  rw [merge_one]
  omega
theorem FnOpened : laws_FnOpened.Pure := by
  intro l0 _ hl1 _
  refine Ev.rounds ?_
  unfold laws_FnOpened.f
  have hl : l0.length ≤ 140737488351232 := by omega
  refine Ev.congr (fun k => by unfold laws_big.f; rw [Option.bind_some]) ?_
  by_cases hb : (l0.length : Int) > 1048576
  · exact Ev_all_k fun k => by rw [decide_eq_true hb, if_pos rfl]
  refine Ev.congr (fun k => by rw [decide_eq_false hb, if_neg (by decide)]) ?_
  obtain ⟨l, x0, x1, x2, x3, x4, hd, hl2⟩ := drawOpen_ok l0 hl
  obtain ⟨x, hx⟩ : ∃ x : SL, x = ⟨x0, x1, x2, x3, x4⟩ := ⟨_, rfl⟩
  obtain ⟨o, ho⟩ : ∃ o, o = openL l x := ⟨_, rfl⟩
  have hI : Ev (fun k => impl_LotOpen.f k l x0 x1 x2 x3 x4) o := by rw [ho, hx]; exact open_i l ⟨x0, x1, x2, x3, x4⟩ (by omega)
  have hS : Ev (fun k => spec_LotOpen.f k l x0 x1 x2 x3 x4) o := by rw [ho, hx]; exact open_s l ⟨x0, x1, x2, x3, x4⟩ (by omega)
  refine Ev_bind hd (Ev_bind hI (Ev_bind hS ?_))
  refine Ev.congr (fun k => if_pos rfl) ?_
  unfold openL at ho
  by_cases h : impl_LotsOk.ok l = true ∧ E1.Form x
  · rw [if_pos h] at ho
    by_cases h2 : impl_LotsOk.ok (mergeL l [x]) = true
    · rw [if_pos h2] at ho
      rw [ho]
      have hR := (ok_iff l).1 h.1
      have hN := (ok_iff _).1 h2
      have hF := h.2
      have hnl : (mergeL l [x]).length = l.length + 1 := by rw [merge_len]; rfl
      refine Ev.congr (fun k => (if_neg (show ¬((0 : Int) = 1) by decide)).trans (if_pos rfl)) ?_
      have q1 := lots_of_right hN x0 x1
      have q2 := lots_of_right hR x0 x1
      have q3 := opened_own l x x0 x1
      have t1 := tot_of x0 x1 l
      have t2 := tot_of x0 x1 (mergeL l [x])
      have hO := own_of hR x0 x1
      have hp := all4_pos hO.form
      have hb1 := hO.tot1
      have hb2 := hO.all1
      have e3 : x.f3 = x3 := by rw [hx]
      have e4 : x.f4 = x4 := by rw [hx]
      have eq : qty x0 x1 [x] = x3 ∧ cst x0 x1 [x] = x4 := by
        rw [hx]
        simp [qty, cst]
      unfold E1.Form at hF
      rw [e3, e4] at hF
      refine Ev_bind (qty_ri (mergeL l [x]) x0 x1 (by omega)) (Ev_bind (qty_r l x0 x1 (by omega)) ?_)
      rw [q1.2.1, q2.2.1]
      refine Ev.congr (fun k => if_pos ?_) ?_
      · show tot (ofL x0 x1 (mergeL l [x])) = wrap64 (tot (ofL x0 x1 l) + x3)
        rw [w64_in _ (by omega) (by omega)]
        omega
      refine Ev_bind (cost_ri (mergeL l [x]) x0 x1 (by omega)) (Ev_bind (cost_r l x0 x1 (by omega)) ?_)
      rw [q1.2.2, q2.2.2]
      refine Ev.congr (fun k => if_pos ?_) ?_
      · show all4 (ofL x0 x1 (mergeL l [x])) = wrap64 (all4 (ofL x0 x1 l) + x4)
        rw [w64_in _ (by omega) (by omega)]
        omega
      have eL : (((mergeL l [x]).length : Int) != wrap64 ((l.length : Int) + 1)) = false := by
        rw [hnl, w64_in _ (by omega) (by omega)]
        simp
      refine Ev.step (f := fun k => laws_FnOpened.l0 k (ofL x0 x1 (mergeL l [x])) (-1) (-1) 0 x0 x1 x2 x3 x4) (fun k => ?_) ?_
      · show laws_FnOpened.j0 (k + 1) (mergeL l [x]) (((mergeL l [x]).length : Int) != wrap64 ((l.length : Int) + 1)) x0 x1 x2 x3 x4 = _
        rw [eL]
        simp only [laws_FnOpened.j0]
        rw [if_neg (by decide), lotsOf_i _ _ _ (by omega), Option.bind_some, q1.1]
      · have hxm : x ∈ ofL x0 x1 (mergeL l [x]) := by
          unfold ofL
          refine List.mem_filter.2 ⟨(merge_perm l [x]).mem_iff.2 (List.mem_append.2 (.inr (List.mem_cons_self ..))), ?_⟩
          rw [hx]
          unfold Own
          simp
        have hON := own_of hN x0 x1
        have f0 : x.f0 = x0 := by rw [hx]
        have f1 : x.f1 = x1 := by rw [hx]
        have hkey : ∀ y ∈ ofL x0 x1 (mergeL l [x]), y.f0 = x.f0 ∧ y.f1 = x.f1 := fun y hy => by
          rw [f0, f1]
          exact hON.key y hy
        have hloop := opened_loop (own := ofL x0 x1 (mergeL l [x])) (x := x) (by have := hON.len; omega) hON.pw hkey hxm
        rw [hx] at hloop ⊢
        exact hloop
    · rw [if_neg h2] at ho
      rw [ho]
      refine Ev.congr (fun k => (if_neg (show ¬((3 : Int) = 1) by decide)).trans (if_neg (show ¬((3 : Int) = 0) by decide))) ?_
      exact Ev_bind (same_lots l (by omega)) (Ev_all_k fun k => rfl)
  · rw [if_neg h] at ho
    rw [ho]
    exact Ev_all_k fun k => rfl
end Go.Proofs.Ytomanpmffjkkgaa.Pure
namespace Go.Proofs.YtomanpmffjkkgaaW.PrintWords
open Go.ChangeShapes Go.WideShapes
theorem sized_ints {H : Type} {enc : TypeId × Value → H} {P : Program} {W : World} {base : Nat} {spare : Nat → Bool} {held : Bool} {t e : TypeId} {k : IntKind} {a : Option Addr} {len cap : Nat} {d : DataW H} {ps : List MemPlace} {ts : List TypeId} {ds : List (DataW H)} {j : Nat}
    (hsz : (DataW.weightsEach P ts ds).all (· ≤ reachBytes) = true) (ht : ts[j]? = some t) (hd : ds[j]? = some d) (hu : P.underlying t = some (.slice e)) (he : P.underlying e = some (.int k)) (hc : P.cellsOf e = 1) {B : Nat} (hB : P.bytesOf e = B)
    (h : DataW.Trod enc P W base spare held t (.slice a len cap) d ps) : len * B ≤ 140737488351232 := by
  obtain ⟨fuel, hf⟩ := h
  rcases open_ints hu he hc hf with ⟨hcs, _⟩ | ⟨x, l, c, zs, hcs, _, hl, _, hz, hx, _, _⟩
  · simp [Value.cells] at hcs
    obtain ⟨rfl, rfl, rfl⟩ := hcs
    simp
  · simp [Value.cells] at hcs
    obtain ⟨rfl, rfl, rfl⟩ := hcs
    obtain ⟨hx, _⟩ := Prod.mk.inj hx
    subst hx
    have z := sized_slice hsz ht hd hu
    rw [hB] at z
    have hl2 : len ≤ zs.length := by
      rw [hz]
      split
      · exact hl
      · exact Nat.le_refl _
    have h1 : (lits (H := H) k (zs.take len)).length + (lits (H := H) k (zs.drop len)).length = zs.length := by
      simp [lits]
      omega
    rw [h1] at z
    exact Nat.le_trans (Nat.mul_le_mul_right _ hl2) z
end Go.Proofs.YtomanpmffjkkgaaW.PrintWords
